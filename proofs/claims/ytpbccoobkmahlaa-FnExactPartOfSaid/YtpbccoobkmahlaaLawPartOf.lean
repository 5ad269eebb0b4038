/- The law FnExactPartOf returns true for all arguments. No conditions. -/
import Derived.Test.YtpbccoobkmahlaaGLawN
import Derived.Test.YtpbccoobkmahlaaPartG
namespace Go.Proofs.Ytpbccoobkmahlaa.lawPartOf
open Go.ChangeShapes Go.WideShapes Go.ChangeAt Go.RowKit
open Go.Fl GL
set_option linter.unusedVariables false

set_option maxHeartbeats 32000000 in
set_option maxRecDepth 100000 in
theorem walk (v0 : Value) (L0 : List Nd) (k1 : Int) (g1 : (Lit.int IntKind.i64 k1).wf = true) (w : World) (h0 : NodesIn w v0 L0) (s0 : Small L0) : Calls Try.prog 12 #[.agg #[v0], .int .i64 k1] w fun e w' => e = .returned (.bool true) ∧ Below w.heap.size w w' := by
  obtain ⟨a0, c0, rfl, _⟩ := id h0
  have H0 := Lib.hid h0
  have S0 := Lib.hid s0
  clear h0 s0
  have e0 := bl_refl w
  have hb_1 := bl1 w (.cells #[.slice a0 L0.length c0] 38)
  have B0_1 : (w.alloc (.cells #[.slice a0 L0.length c0] 38)).cell? ⟨w.heap.size, 0, none⟩ = some (.slice a0 L0.length c0) := by first | exact box1 w (.slice a0 L0.length c0) 38 | (simp; done) | simpa using box1 w (.slice a0 L0.length c0) 38
  have e_2 := bl_call e0 hb_1
  clear e0
  clear hb_1
  go_enter Try.func12, Try.ntmps12
  go_wp2_with fail
  refine (szShape_any _ L0 (1048576) _ (H0.out.keep e_2) S0.out (by omega)).mono ?_
  rintro e wz0 ⟨⟨hl0, rfl⟩ | ⟨hl0, rfl⟩, hbz0⟩
  rotate_left
  · go_wp2_with fail
    go_ret
    exact ⟨rfl, bl_call e_2 hbz0⟩
  have zz0 : w.heap.size + 1 ≤ wz0.heap.size := by have := hbz0.size; first | exact this | simpa using this
  have e_3 := bl_call e_2 hbz0
  have B0_3 := cellk B0_1 hbz0
  clear e_2 B0_1
  have hL0 := Lib.hid (show tot L0 ≤ 1048576 by omega)
  have hM0 := Lib.hid (mod_of hL0.out)
  have hn1_0 := nneg (1048576 - tot L0)
  obtain ⟨M, hM⟩ : ∃ M, partL L0 k1 = M := ⟨_, rfl⟩
  obtain ⟨b, hb⟩ : ∃ b, partB L0 k1 = b := ⟨_, rfl⟩
  have hm : M.length ≤ 16 ∧ sumX M ≤ 64 := by rw [← hM]; exact part_small _ _
  have HS := Lib.hid (fun (W : World) (u0 : Value) (q0 : NodesIn W u0 L0) => show Calls Try.prog 47 #[.agg #[u0], .int .i64 k1] W (SOut W M b) by rw [← hM, ← hb]; exact spec_PartOf_any u0 L0 k1 W q0 hM0.out)
  have HI := Lib.hid (fun (W : World) (u0 : Value) (lo0 hi0 : Nat) (q0 : OwnSh W lo0 hi0 u0 L0) => show Calls Try.prog 48 #[.agg #[u0], .int .i64 k1] W (SOut W M b) by rw [← hM, ← hb]; exact PartOf_any u0 L0 k1 W q0.nodes hM0.out)
  have hq := beq_self_bool b
  have ht : tot M ≤ 1048576 := by unfold tot; omega
  clear hM hb
  go_wp2_with fail
  refine (toShape_own _ L0 _ (H0.out.keep e_3) hL0.out).mono ?_
  rintro e wA0 ⟨gA0, rfl, oA0, hbA0⟩
  have zA0 : wz0.heap.size ≤ wA0.heap.size := by have := hbA0.size; first | exact this | simpa using this
  have e_4 := bl_call e_3 hbA0
  have B0_4 := cellk B0_3 hbA0
  clear e_3 B0_3
  clear hbA0
  have pA0 : OwnSh wA0 (wz0.heap.size) wA0.heap.size (.slice (some ⟨gA0, 0, none⟩) L0.length L0.length) L0 := by first | exact oA0 | simpa using oA0
  clear oA0
  go_wp2_with fail
  refine (HS.out _ _ pA0.nodes).mono ?_
  rintro e wP ⟨vP, rfl, oP, hbP⟩
  obtain ⟨aP, nP, hvP⟩ := oP.form
  subst hvP
  have zP : wA0.heap.size ≤ wP.heap.size := by have := hbP.size; first | exact this | simpa using this
  have e_5 := bl_call e_4 hbP
  have B0_5 := cellk B0_4 hbP
  have A0_5 := pA0.keep hbP
  clear e_4 B0_4 pA0
  clear hbP
  have pP : OwnSh wP (wA0.heap.size) wP.heap.size (.slice aP M.length nP) M := by first | exact oP | simpa using oP
  clear oP
  have hb_6 := bl1 wP (.cells #[.slice aP M.length nP] 26)
  have cP_6 : (wP.alloc (.cells #[.slice aP M.length nP] 26)).cell? ⟨wP.heap.size, 0, none⟩ = some (.slice aP M.length nP) := by first | exact box1 wP (.slice aP M.length nP) 26 | (simp; done) | simpa using box1 wP (.slice aP M.length nP) 26
  have e_7 := bl_call e_5 hb_6
  have B0_7 := cellk B0_5 hb_6
  have A0_7 := A0_5.keep hb_6
  have P_7 := pP.keep hb_6
  clear e_5 B0_5 A0_5 pP
  clear hb_6
  clear A0_7
  go_wp2_with fail
  refine (toShape_own _ L0 _ (H0.out.keep e_7) hL0.out).mono ?_
  rintro e wX0 ⟨gX0, rfl, oX0, hbX0⟩
  have zX0 : wP.heap.size + 1 ≤ wX0.heap.size := by have := hbX0.size; first | exact this | simpa using this
  have e_8 := bl_call e_7 hbX0
  have B0_8 := cellk B0_7 hbX0
  have P_8 := P_7.keep hbX0
  have cP_8 := cellk cP_6 hbX0
  clear e_7 B0_7 P_7 cP_6
  clear hbX0
  have pX0 : OwnSh wX0 (wP.heap.size + 1) wX0.heap.size (.slice (some ⟨gX0, 0, none⟩) L0.length L0.length) L0 := by first | exact oX0 | simpa using oX0
  clear oX0
  have hb_9 := bl1 wX0 (.cells #[.slice (some ⟨gX0, 0, none⟩) L0.length L0.length] 26)
  have cX0_9 : (wX0.alloc (.cells #[.slice (some ⟨gX0, 0, none⟩) L0.length L0.length] 26)).cell? ⟨wX0.heap.size, 0, none⟩ = some (.slice (some ⟨gX0, 0, none⟩) L0.length L0.length) := by first | exact box1 wX0 (.slice (some ⟨gX0, 0, none⟩) L0.length L0.length) 26 | (simp; done) | simpa using box1 wX0 (.slice (some ⟨gX0, 0, none⟩) L0.length L0.length) 26
  have e_10 := bl_call e_8 hb_9
  have B0_10 := cellk B0_8 hb_9
  have P_10 := P_8.keep hb_9
  have cP_10 := cellk cP_8 hb_9
  have X0_10 := pX0.keep hb_9
  clear e_8 B0_8 P_8 cP_8 pX0
  clear hb_9
  go_wp2_with fail
  refine (HI.out _ _ _ _ X0_10).mono ?_
  rintro e wQ ⟨vQ, rfl, oQ, hbQ⟩
  obtain ⟨aQ, nQ, hvQ⟩ := oQ.form
  subst hvQ
  have zQ : wX0.heap.size + 1 ≤ wQ.heap.size := by have := hbQ.size; first | exact this | simpa using this
  have e_11 := bl_call e_10 hbQ
  have B0_11 := cellk B0_10 hbQ
  have P_11 := P_10.keep hbQ
  have cP_11 := cellk cP_10 hbQ
  have X0_11 := X0_10.keep hbQ
  have cX0_11 := cellk cX0_9 hbQ
  clear e_10 B0_10 P_10 cP_10 X0_10 cX0_9
  clear hbQ
  have pQ : OwnSh wQ (wX0.heap.size + 1) wQ.heap.size (.slice aQ M.length nQ) M := by first | exact oQ | simpa using oQ
  clear oQ
  have hb_12 := bl1 wQ (.cells #[.slice aQ M.length nQ] 26)
  have cQ_12 : (wQ.alloc (.cells #[.slice aQ M.length nQ] 26)).cell? ⟨wQ.heap.size, 0, none⟩ = some (.slice aQ M.length nQ) := by first | exact box1 wQ (.slice aQ M.length nQ) 26 | (simp; done) | simpa using box1 wQ (.slice aQ M.length nQ) 26
  have e_13 := bl_call e_11 hb_12
  have B0_13 := cellk B0_11 hb_12
  have P_13 := P_11.keep hb_12
  have cP_13 := cellk cP_11 hb_12
  have X0_13 := X0_11.keep hb_12
  have cX0_13 := cellk cX0_11 hb_12
  have Q_13 := pQ.keep hb_12
  clear e_11 B0_11 P_11 cP_11 X0_11 cX0_11 pQ
  clear hb_12
  go_wp2_with fail
  refine (eqShape_true _ _ M _ Q_13.nodes P_13.nodes ht).mono ?_
  rintro e wE1 ⟨rfl, hbwE1⟩
  have zwE1 : wQ.heap.size + 1 ≤ wE1.heap.size := by have := hbwE1.size; first | exact this | simpa using this
  have e_14 := bl_call e_13 hbwE1
  have B0_14 := cellk B0_13 hbwE1
  have P_14 := P_13.keep hbwE1
  have cP_14 := cellk cP_13 hbwE1
  have X0_14 := X0_13.keep hbwE1
  have cX0_14 := cellk cX0_13 hbwE1
  have Q_14 := Q_13.keep hbwE1
  have cQ_14 := cellk cQ_12 hbwE1
  clear e_13 B0_13 P_13 cP_13 X0_13 cX0_13 Q_13 cQ_12
  clear hbwE1
  go_upto_region 10 with fail
  have HS0_0 := Lib.hid (show wE1.drew.cell? ⟨w.heap.size, 0, none⟩ = some (.slice a0 L0.length c0) ∧ wE1.drew.cell? ⟨wX0.heap.size, 0, none⟩ = some (.slice (some ⟨gX0, 0, none⟩) L0.length L0.length) ∧ NodesIn wE1.drew (.slice (some ⟨gX0, 0, none⟩) L0.length L0.length) L0 ∧ Below wE1.heap.size wE1 wE1.drew from ⟨B0_14, cX0_14, X0_14.nodes, bl_drew (bl_refl _)⟩)
  have Hid_e := Lib.hid e_14
  clear e_14
  have Hid_B0 := Lib.hid B0_14
  clear B0_14
  have Hid_P := Lib.hid P_14
  clear P_14
  have Hid_cP := Lib.hid cP_14
  clear cP_14
  have Hid_X0 := Lib.hid X0_14
  clear X0_14
  have Hid_cX0 := Lib.hid cX0_14
  clear cX0_14
  have Hid_Q := Lib.hid Q_14
  clear Q_14
  have Hid_cQ := Lib.hid cQ_14
  clear cQ_14
  go_cut [49] (fun sx wx => sx = .bool false ∧ Below wE1.heap.size wE1 wx)
  case first =>
    go_region_held3 (fun wx => wx.cell? ⟨w.heap.size, 0, none⟩ = some (.slice a0 L0.length c0) ∧ wx.cell? ⟨wX0.heap.size, 0, none⟩ = some (.slice (some ⟨gX0, 0, none⟩) L0.length L0.length) ∧ NodesIn wx (.slice (some ⟨gX0, 0, none⟩) L0.length L0.length) L0 ∧ Below wE1.heap.size wE1 wx) (first | exact HS0_0.out | exact keepB (by assumption) (by assumption)) (first | (go_at_call 24; refine (toShape_any _ L0 _ (H0.out.keep (bl_call Hid_e.out (And.right (And.right (And.right (by assumption)))))) hL0.out).mono ?_; rintro e wa ⟨va, rfl, hA, hba⟩; obtain ⟨ga', hga, _⟩ := id hA; subst hga) | (go_at_call 17; refine (eqShape_true _ _ L0 _ (And.left (And.right (And.right (by assumption)))) hA.nodes hL0.out).mono ?_; rintro e wd ⟨rfl, hbd⟩))
    all_goals (go_wp2_with fail; go_meet; exact ⟨rfl, And.right (And.right (And.right (by assumption)))⟩)
  case rest =>
    obtain ⟨rfl, hE0⟩ := hcut
    clear HS0_0
    have U0_e := Hid_e.out
    clear Hid_e
    have U0_B0 := Hid_B0.out
    clear Hid_B0
    have U0_P := Hid_P.out
    clear Hid_P
    have U0_cP := Hid_cP.out
    clear Hid_cP
    have U0_X0 := Hid_X0.out
    clear Hid_X0
    have U0_cX0 := Hid_cX0.out
    clear Hid_cX0
    have U0_Q := Hid_Q.out
    clear Hid_Q
    have U0_cQ := Hid_cQ.out
    clear Hid_cQ
    obtain ⟨wq0, hwq0⟩ : ∃ x, x = wc := ⟨wc, rfl⟩
    subst hwq0
    have zE0 : wE1.heap.size ≤ wq0.heap.size := by have := hE0.size; first | exact this | simpa using this
    have e_15 := bl_call U0_e hE0
    have B0_15 := cellk U0_B0 hE0
    have P_15 := U0_P.keep hE0
    have cP_15 := cellk U0_cP hE0
    have X0_15 := U0_X0.keep hE0
    have cX0_15 := cellk U0_cX0 hE0
    have Q_15 := U0_Q.keep hE0
    have cQ_15 := cellk U0_cQ hE0
    clear U0_e U0_B0 U0_P U0_cP U0_X0 U0_cX0 U0_Q U0_cQ
    clear hE0
    obtain ⟨K0, hK0⟩ : ∃ K, 1 + (3 * L0.length + sumX L0) = K := ⟨_, rfl⟩
    have hsK0 : K0 ≤ 4194304 := by have := hL0.out; unfold tot at this; omega
    go_wp2_with fail
    refine (markShape_k1 K0 _ L0 _ _ _ hK0 X0_15 hL0.out).mono ?_
    rintro e wM0 ⟨rfl, hwwM0⟩
    have zwM0 : wq0.heap.size ≤ wM0.heap.size := by have := hwwM0.size; first | exact this | simpa using this
    clear X0_15
    clear cX0_15
    have e_16 := bl_within e_15 hwwM0 (by omega)
    have B0_16 := cellW B0_15 hwwM0 (by show w.heap.size < _ ∨ _ ≤ w.heap.size; omega)
    have P_16 := P_15.apart hwwM0 (by omega)
    have cP_16 := cellW cP_15 hwwM0 (by show wP.heap.size < _ ∨ _ ≤ wP.heap.size; omega)
    have Q_16 := Q_15.apart hwwM0 (by omega)
    have cQ_16 := cellW cQ_15 hwwM0 (by show wQ.heap.size < _ ∨ _ ≤ wQ.heap.size; omega)
    clear e_15 B0_15 P_15 cP_15 Q_15 cQ_15
    clear hwwM0
    have nnK0 := nneg K0
    go_wp2_with fail
    refine (eqShape_true _ _ M _ Q_16.nodes P_16.nodes ht).mono ?_
    rintro e wE2 ⟨rfl, hbwE2⟩
    have zwE2 : wM0.heap.size ≤ wE2.heap.size := by have := hbwE2.size; first | exact this | simpa using this
    have e_17 := bl_call e_16 hbwE2
    have B0_17 := cellk B0_16 hbwE2
    have P_17 := P_16.keep hbwE2
    have cP_17 := cellk cP_16 hbwE2
    have Q_17 := Q_16.keep hbwE2
    have cQ_17 := cellk cQ_16 hbwE2
    clear e_16 B0_16 P_16 cP_16 Q_16 cQ_16
    clear hbwE2
    go_wp2_with fail
    refine (markShape_G _ M _ _ _ Q_17 hm).mono ?_
    rintro e wMG ⟨rfl, KG, hwG⟩
    have zMG : wE2.heap.size ≤ wMG.heap.size := by have := hwG.size; first | exact this | simpa using this
    clear Q_17
    have e_18 := bl_within e_17 hwG (by omega)
    have B0_18 := cellW B0_17 hwG (by show w.heap.size < _ ∨ _ ≤ w.heap.size; omega)
    have P_18 := P_17.apart hwG (by omega)
    have cP_18 := cellW cP_17 hwG (by show wP.heap.size < _ ∨ _ ≤ wP.heap.size; omega)
    have cQ_18 := cellW cQ_17 hwG (by show wQ.heap.size < _ ∨ _ ≤ wQ.heap.size; omega)
    clear e_17 B0_17 P_17 cP_17 cQ_17
    clear hwG
    have hkG := nneg (1 + (3 * M.length + sumX M))
    have hqG : (((1 + (3 * M.length + sumX M) : Nat) : Int) != ((1 + (3 * M.length + sumX M) : Nat) : Int)) = false := by simp
    go_wp2_with fail
    refine (heldShape_G _ _ _ _ _ KG).mono ?_
    rintro e wH1 ⟨rfl, hbH1⟩
    have zH1 : wMG.heap.size ≤ wH1.heap.size := by have := hbH1.size; first | exact this | simpa using this
    have e_19 := bl_call e_18 hbH1
    have B0_19 := cellk B0_18 hbH1
    have P_19 := P_18.keep hbH1
    have cP_19 := cellk cP_18 hbH1
    have cQ_19 := cellk cQ_18 hbH1
    have KG_19 := KG.keep hbH1
    clear e_18 B0_18 P_18 cP_18 cQ_18 KG
    clear hbH1
    go_wp2_with fail
    refine (toShape_own _ L0 _ (H0.out.keep e_19) hL0.out).mono ?_
    rintro e wC0 ⟨gC0, rfl, oC0, hbC0⟩
    have zC0 : wH1.heap.size ≤ wC0.heap.size := by have := hbC0.size; first | exact this | simpa using this
    have e_20 := bl_call e_19 hbC0
    have B0_20 := cellk B0_19 hbC0
    have P_20 := P_19.keep hbC0
    have cP_20 := cellk cP_19 hbC0
    have cQ_20 := cellk cQ_19 hbC0
    have KG_20 := KG_19.keep hbC0
    clear e_19 B0_19 P_19 cP_19 cQ_19 KG_19
    clear hbC0
    have pC0 : OwnSh wC0 (wH1.heap.size) wC0.heap.size (.slice (some ⟨gC0, 0, none⟩) L0.length L0.length) L0 := by first | exact oC0 | simpa using oC0
    clear oC0
    go_wp2_with fail
    refine (HI.out _ _ _ _ pC0).mono ?_
    rintro e wR ⟨vR, rfl, oR, hbR⟩
    obtain ⟨aR, nR, hvR⟩ := oR.form
    subst hvR
    have zR : wC0.heap.size ≤ wR.heap.size := by have := hbR.size; first | exact this | simpa using this
    have e_21 := bl_call e_20 hbR
    have B0_21 := cellk B0_20 hbR
    have P_21 := P_20.keep hbR
    have cP_21 := cellk cP_20 hbR
    have cQ_21 := cellk cQ_20 hbR
    have KG_21 := KG_20.keep hbR
    have C0_21 := pC0.keep hbR
    clear e_20 B0_20 P_20 cP_20 cQ_20 KG_20 pC0
    clear hbR
    have pR : OwnSh wR (wC0.heap.size) wR.heap.size (.slice aR M.length nR) M := by first | exact oR | simpa using oR
    clear oR
    have hb_22 := bl1 wR (.cells #[.slice aR M.length nR] 26)
    have cR_22 : (wR.alloc (.cells #[.slice aR M.length nR] 26)).cell? ⟨wR.heap.size, 0, none⟩ = some (.slice aR M.length nR) := by first | exact box1 wR (.slice aR M.length nR) 26 | (simp; done) | simpa using box1 wR (.slice aR M.length nR) 26
    have e_23 := bl_call e_21 hb_22
    have B0_23 := cellk B0_21 hb_22
    have P_23 := P_21.keep hb_22
    have cP_23 := cellk cP_21 hb_22
    have cQ_23 := cellk cQ_21 hb_22
    have KG_23 := KG_21.keep hb_22
    have C0_23 := C0_21.keep hb_22
    have R_23 := pR.keep hb_22
    clear e_21 B0_21 P_21 cP_21 cQ_21 KG_21 C0_21 pR
    clear hb_22
    clear C0_23
    go_wp2_with fail
    refine (eqShape_true _ _ M _ R_23.nodes P_23.nodes ht).mono ?_
    rintro e wE3 ⟨rfl, hbwE3⟩
    have zwE3 : wR.heap.size + 1 ≤ wE3.heap.size := by have := hbwE3.size; first | exact this | simpa using this
    have e_24 := bl_call e_23 hbwE3
    have B0_24 := cellk B0_23 hbwE3
    have P_24 := P_23.keep hbwE3
    have cP_24 := cellk cP_23 hbwE3
    have cQ_24 := cellk cQ_23 hbwE3
    have KG_24 := KG_23.keep hbwE3
    have R_24 := R_23.keep hbwE3
    have cR_24 := cellk cR_22 hbwE3
    clear e_23 B0_23 P_23 cP_23 cQ_23 KG_23 R_23 cR_22
    clear hbwE3
    clear R_24
    clear P_24
    clear cP_24
    clear cR_24
    go_wp2_with fail
    refine (heldShape_G _ _ _ _ _ KG_24).mono ?_
    rintro e wH2 ⟨rfl, hbH2⟩
    have e_25 := bl_call e_24 hbH2
    have B0_25 := cellk B0_24 hbH2
    have cQ_25 := cellk cQ_24 hbH2
    have KG_25 := KG_24.keep hbH2
    clear e_24 B0_24 cQ_24 KG_24
    go_wp2_with fail
    go_ret
    exact ⟨rfl, e_25⟩

theorem own : ownKnob Try.prog.godebug = none := by kernel_rfl
theorem laidOut : laidOutB Try.prog = true := by kernel_rfl

set_option maxRecDepth 100000 in
theorem lifted (os : Os) (started : os.Started) (H : Type) (enc : TypeId × Value → H) :
    ReturnsInHanded {} Try.checked os 12 .any (Rows.fnExactPartOfSpec.pre6 enc Try.prog Try.f12 Rows.fnExactPartOfRow.domain false) (Rows.fnExactPartOfSpec.post enc Try.prog Try.f12 false true false false) := by
  refine returnsInHanded_of_change (C := Try.checked) own started (by kernel_rfl) Try.func12
    (ChangeSpec.witness6 (enc := enc) (C := Try.checked) false ⟨#[], #[.agg #[.slice none 0 0], .int .i64 0], []⟩ 8 (by kernel_rfl) (by kernel_rfl) (by kernel_rfl) (by kernel_rfl)) ?_
  intro W base args ds gs before hval0 hW hcnd _
  have hval : ∀ (j : Nat) t v, Try.f12.params[j]? = some t → args[j]? = some v → Value.okWide Try.prog W .any base t v := hval0
  have hW' := hW
  obtain ⟨p, q, hA0, hV, rfl, hfz, hnd⟩ := hW
  have hA : DataW.TrodAll enc Try.prog W 0 (fun _ => true) true Try.f12.params.toList args.toList ds p := hA0
  rw [Try.params12] at hA hval
  obtain ⟨v0, vs0, d0, ds0, p0, q0, hargs, rfl, rfl, h0, r0⟩ := trodAll_cons hA
  obtain ⟨v1, vs1, d1, ds1, p1, q1, rfl, rfl, rfl, h1, r1⟩ := trodAll_cons r0
  obtain ⟨rfl, rfl, rfl⟩ := trodAll_nil r1
  obtain rfl : args = #[v0, v1] := by cases args; simp_all
  obtain ⟨rfl, rfl⟩ := trodVars_none hV
  have k0 := h0
  have lt0 : ∀ x ∈ p0, x.block < W.heap.size := by obtain ⟨m, hm⟩ := k0; exact DataW.trod_lt m _ _ _ hm
  have k1 := h1
  have lt1 : ∀ x ∈ p1, x.block < W.heap.size := by obtain ⟨m, hm⟩ := k1; exact DataW.trod_lt m _ _ _ hm
  obtain ⟨sv0, L0, rfl, w0, s0⟩ := open_shape Try.underlying38 (by kernel_rfl) (by kernel_rfl) rfl Try.underlying36 Try.underlying107 (by kernel_rfl) (by kernel_rfl) Try.underlying2 Try.underlying2 Try.underlying2 Try.underlying46 Try.underlying61 (by kernel_rfl) (hval 0 38 v0 rfl rfl) h0
  obtain ⟨a1, rfl, rfl, rfl, w1⟩ := open_int Try.underlying2 (hval 1 2 v1 rfl rfl) h1
  clear hA0 hval0
  refine (walk sv0 L0 a1 w1 W w0 s0).mono fun e W' ⟨he, bel⟩ => ?_
  subst he
  exact ⟨_, rfl, _, _, _, [], _, [], hW', trodAll_mk1 (shut_bool Try.underlying4 _), (trodAll_cons_mk (Below.trod laidOut (by kernel_rfl) (of_decide_eq_true (by kernel_rfl)) k0 bel lt0) (trodAll_cons_mk (Below.trod laidOut (by kernel_rfl) (of_decide_eq_true (by kernel_rfl)) k1 bel lt1) trodAll_mk0)), rfl, bel.frame _, fun h => by cases h⟩

theorem over : Rows.fnExactPartOfRow.holds Try.pinned (OpenSpec.ofChange Rows.fnExactPartOfSpec) :=
  OpenClaim.holds_of_wide 12 Try.f12 rfl rfl rfl rfl rfl rfl rfl ⟨rfl, rfl, rfl, rfl, rfl⟩ rfl rfl rfl rfl rfl (by kernel_rfl) Try.func12 (by kernel_rfl)
    (of_decide_eq_true (by kernel_rfl)) (by unfold Func.isWrapper; first | (rw [if_pos (by decide +kernel)]; kernel_rfl) | (rw [if_neg (by decide +kernel)]; exact ⟨rfl, rfl⟩))
    (fun os started H enc _ => lifted os started H enc)

theorem proved : Rows.FnExactPartOfSaid := over
#print axioms proved
end Go.Proofs.Ytpbccoobkmahlaa.lawPartOf
