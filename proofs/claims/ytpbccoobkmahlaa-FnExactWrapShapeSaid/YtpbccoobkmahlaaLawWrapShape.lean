/- The law FnExactWrapShape returns true for all arguments. No conditions. -/
import Derived.Test.YtpbccoobkmahlaaGLawN
namespace Go.Proofs.Ytpbccoobkmahlaa.lawWrapShape
open Go.ChangeShapes Go.WideShapes Go.ChangeAt Go.RowKit
open Go.Fl GL
set_option linter.unusedVariables false

set_option maxHeartbeats 32000000 in
set_option maxRecDepth 100000 in
theorem walk (k0 : Int) (g0 : (Lit.int IntKind.i64 k0).wf = true) (v1 : Value) (L1 : List Nd) (k2 : Int) (g2 : (Lit.int IntKind.i64 k2).wf = true) (v3 : Value) (xs3 : List Nat) (w : World) (h1 : NodesIn w v1 L1) (s1 : Small L1) (h3 : FIn w v3 xs3) : Calls Try.prog 9 #[.int .i64 k0, .agg #[v1], .int .i64 k2, v3] w fun e w' => e = .returned (.bool true) ∧ Below w.heap.size w w' := by
  obtain ⟨a1, c1, rfl, _⟩ := id h1
  have H1 := Lib.hid h1
  have S1 := Lib.hid s1
  obtain ⟨a3, c3, rfl, _⟩ := id h3
  have H3 := Lib.hid h3
  clear h1 s1 h3
  have e0 := bl_refl w
  have hb_1 := bl1 w (.cells #[.slice a1 L1.length c1] 38)
  have B1_1 : (w.alloc (.cells #[.slice a1 L1.length c1] 38)).cell? ⟨w.heap.size, 0, none⟩ = some (.slice a1 L1.length c1) := by first | exact box1 w (.slice a1 L1.length c1) 38 | simpa using box1 w (.slice a1 L1.length c1) 38
  have e_2 := bl_call e0 hb_1
  clear e0
  clear hb_1
  by_cases hn3 : xs3.length ≤ 1048576
  rotate_left
  · have hd : decide ((1048576 : Int) < xs3.length) = true := by simp; omega
    go_enter Try.func9, Try.ntmps9
    go_wp2_with fail
    go_ret
    exact ⟨rfl, e_2⟩
  have hd3 : decide ((1048576 : Int) < xs3.length) = false := by simp; omega
  go_enter Try.func9, Try.ntmps9
  go_wp2_with fail
  refine (szShape_any _ L1 (1048576) _ (H1.out.keep e_2) S1.out (by omega)).mono ?_
  rintro e wz1 ⟨⟨hl1, rfl⟩ | ⟨hl1, rfl⟩, hbz1⟩
  rotate_left
  · go_wp2_with fail
    go_ret
    exact ⟨rfl, bl_call e_2 hbz1⟩
  have zz1 : w.heap.size + 1 ≤ wz1.heap.size := by have := hbz1.size; first | exact this | simpa using this
  have e_3 := bl_call e_2 hbz1
  have B1_3 := cellk B1_1 hbz1
  clear e_2 B1_1
  have hL1 := Lib.hid (show tot L1 ≤ 1048576 by omega)
  have hM1 := Lib.hid (mod_of hL1.out)
  have hn1_1 := nneg (1048576 - tot L1)
  obtain ⟨M, hM⟩ : ∃ M, wrapL k0 L1 k2 xs3 = M := ⟨_, rfl⟩
  obtain ⟨b, hb⟩ : ∃ b, wrapB k0 L1 k2 xs3 = b := ⟨_, rfl⟩
  have hm : M.length ≤ 16 ∧ sumX M ≤ 64 := by rw [← hM]; exact wrap_small _ _ _ _
  have HS := Lib.hid (fun (W : World) (u1 u3 : Value) (q1 : NodesIn W u1 L1) (q3 : FIn W u3 xs3) => show Calls Try.prog 40 #[.int .i64 k0, .agg #[u1], .int .i64 k2, u3] W (SOut W M b) by rw [← hM, ← hb]; exact spec_WrapShape_any k0 k2 u1 u3 L1 xs3 W q1 hM1.out q3 hn3)
  have HI := Lib.hid (fun (W : World) (u1 u3 : Value) (lo1 hi1 : Nat) (q1 : OwnSh W lo1 hi1 u1 L1) (q3 : NumV W u3 xs3) => show Calls Try.prog 41 #[.int .i64 k0, .agg #[u1], .int .i64 k2, u3] W (SOut W M b) by rw [← hM, ← hb]; exact WrapShape_any k0 k2 u1 u3 L1 xs3 W q1.nodes hM1.out q3 hn3)
  have hq := beq_self_bool b
  have ht : tot M ≤ 1048576 := by unfold tot; omega
  clear hM hb
  go_wp2_with fail
  refine (toShape_own _ L1 _ (H1.out.keep e_3) hL1.out).mono ?_
  rintro e wA1 ⟨gA1, rfl, oA1, hbA1⟩
  have zA1 : wz1.heap.size ≤ wA1.heap.size := by have := hbA1.size; first | exact this | simpa using this
  have e_4 := bl_call e_3 hbA1
  have B1_4 := cellk B1_3 hbA1
  clear e_3 B1_3
  clear hbA1
  have pA1 : OwnSh wA1 (wz1.heap.size) wA1.heap.size (.slice (some ⟨gA1, 0, none⟩) L1.length L1.length) L1 := by first | exact oA1 | simpa using oA1
  clear oA1
  go_wp2_with fail
  refine (toFloat32S_any _ _ _ (H3.out.keep e_4) hn3).mono ?_
  rintro e wA3 ⟨gA3, rfl, lA3, oA3, hbA3⟩
  have zA3 : wA1.heap.size ≤ wA3.heap.size := by have := hbA3.size; first | exact this | simpa using this
  have e_5 := bl_call e_4 hbA3
  have B1_5 := cellk B1_4 hbA3
  have A1_5 := pA1.keep hbA3
  clear e_4 B1_4 pA1
  clear hbA3
  have xA3 : wA1.heap.size ≤ gA3 := by first | exact lA3 | simpa using lA3
  have yA3 : gA3 < wA3.heap.size := (oA3.lt _ rfl).2
  clear lA3
  go_wp2_with fail
  refine (HS.out _ _ _ A1_5.nodes (FIn_of_row rfl oA3)).mono ?_
  rintro e wP ⟨vP, rfl, oP, hbP⟩
  obtain ⟨aP, nP, hvP⟩ := oP.form
  subst hvP
  have zP : wA3.heap.size ≤ wP.heap.size := by have := hbP.size; first | exact this | simpa using this
  have e_6 := bl_call e_5 hbP
  have B1_6 := cellk B1_5 hbP
  have A1_6 := A1_5.keep hbP
  have A3_6 := own_keep oA3 hbP
  clear e_5 B1_5 A1_5 oA3
  clear hbP
  have pP : OwnSh wP (wA3.heap.size) wP.heap.size (.slice aP M.length nP) M := by first | exact oP | simpa using oP
  clear oP
  have hb_7 := bl1 wP (.cells #[.slice aP M.length nP] 26)
  have cP_7 : (wP.alloc (.cells #[.slice aP M.length nP] 26)).cell? ⟨wP.heap.size, 0, none⟩ = some (.slice aP M.length nP) := by first | exact box1 wP (.slice aP M.length nP) 26 | simpa using box1 wP (.slice aP M.length nP) 26
  have e_8 := bl_call e_6 hb_7
  have B1_8 := cellk B1_6 hb_7
  have A1_8 := A1_6.keep hb_7
  have A3_8 := own_keep A3_6 hb_7
  have P_8 := pP.keep hb_7
  clear e_6 B1_6 A1_6 A3_6 pP
  clear hb_7
  clear A1_8
  clear A3_8
  go_wp2_with fail
  refine (toShape_own _ L1 _ (H1.out.keep e_8) hL1.out).mono ?_
  rintro e wX1 ⟨gX1, rfl, oX1, hbX1⟩
  have zX1 : wP.heap.size + 1 ≤ wX1.heap.size := by have := hbX1.size; first | exact this | simpa using this
  have e_9 := bl_call e_8 hbX1
  have B1_9 := cellk B1_8 hbX1
  have P_9 := P_8.keep hbX1
  have cP_9 := cellk cP_7 hbX1
  clear e_8 B1_8 P_8 cP_7
  clear hbX1
  have pX1 : OwnSh wX1 (wP.heap.size + 1) wX1.heap.size (.slice (some ⟨gX1, 0, none⟩) L1.length L1.length) L1 := by first | exact oX1 | simpa using oX1
  clear oX1
  have hb_10 := bl1 wX1 (.cells #[.slice (some ⟨gX1, 0, none⟩) L1.length L1.length] 26)
  have cX1_10 : (wX1.alloc (.cells #[.slice (some ⟨gX1, 0, none⟩) L1.length L1.length] 26)).cell? ⟨wX1.heap.size, 0, none⟩ = some (.slice (some ⟨gX1, 0, none⟩) L1.length L1.length) := by first | exact box1 wX1 (.slice (some ⟨gX1, 0, none⟩) L1.length L1.length) 26 | simpa using box1 wX1 (.slice (some ⟨gX1, 0, none⟩) L1.length L1.length) 26
  have e_11 := bl_call e_9 hb_10
  have B1_11 := cellk B1_9 hb_10
  have P_11 := P_9.keep hb_10
  have cP_11 := cellk cP_9 hb_10
  have X1_11 := pX1.keep hb_10
  clear e_9 B1_9 P_9 cP_9 pX1
  clear hb_10
  go_wp2_with fail
  refine (toFloat32S_any _ _ _ (H3.out.keep e_11) hn3).mono ?_
  rintro e wX3 ⟨gX3, rfl, lX3, oX3, hbX3⟩
  have zX3 : wX1.heap.size + 1 ≤ wX3.heap.size := by have := hbX3.size; first | exact this | simpa using this
  have e_12 := bl_call e_11 hbX3
  have B1_12 := cellk B1_11 hbX3
  have P_12 := P_11.keep hbX3
  have cP_12 := cellk cP_11 hbX3
  have X1_12 := X1_11.keep hbX3
  have cX1_12 := cellk cX1_10 hbX3
  clear e_11 B1_11 P_11 cP_11 X1_11 cX1_10
  clear hbX3
  have xX3 : wX1.heap.size + 1 ≤ gX3 := by first | exact lX3 | simpa using lX3
  have yX3 : gX3 < wX3.heap.size := (oX3.lt _ rfl).2
  clear lX3
  go_wp2_with fail
  refine (HI.out _ _ _ _ _ X1_12 (NumV_row rfl oX3)).mono ?_
  rintro e wQ ⟨vQ, rfl, oQ, hbQ⟩
  obtain ⟨aQ, nQ, hvQ⟩ := oQ.form
  subst hvQ
  have zQ : wX3.heap.size ≤ wQ.heap.size := by have := hbQ.size; first | exact this | simpa using this
  have e_13 := bl_call e_12 hbQ
  have B1_13 := cellk B1_12 hbQ
  have P_13 := P_12.keep hbQ
  have cP_13 := cellk cP_12 hbQ
  have X1_13 := X1_12.keep hbQ
  have cX1_13 := cellk cX1_12 hbQ
  have X3_13 := own_keep oX3 hbQ
  clear e_12 B1_12 P_12 cP_12 X1_12 cX1_12 oX3
  clear hbQ
  have pQ : OwnSh wQ (wX3.heap.size) wQ.heap.size (.slice aQ M.length nQ) M := by first | exact oQ | simpa using oQ
  clear oQ
  have hb_14 := bl1 wQ (.cells #[.slice aQ M.length nQ] 26)
  have cQ_14 : (wQ.alloc (.cells #[.slice aQ M.length nQ] 26)).cell? ⟨wQ.heap.size, 0, none⟩ = some (.slice aQ M.length nQ) := by first | exact box1 wQ (.slice aQ M.length nQ) 26 | simpa using box1 wQ (.slice aQ M.length nQ) 26
  have e_15 := bl_call e_13 hb_14
  have B1_15 := cellk B1_13 hb_14
  have P_15 := P_13.keep hb_14
  have cP_15 := cellk cP_13 hb_14
  have X1_15 := X1_13.keep hb_14
  have cX1_15 := cellk cX1_13 hb_14
  have X3_15 := own_keep X3_13 hb_14
  have Q_15 := pQ.keep hb_14
  clear e_13 B1_13 P_13 cP_13 X1_13 cX1_13 X3_13 pQ
  clear hb_14
  go_wp2_with fail
  refine (eqShape_true _ _ M _ Q_15.nodes P_15.nodes ht).mono ?_
  rintro e wE1 ⟨rfl, hbwE1⟩
  have zwE1 : wQ.heap.size + 1 ≤ wE1.heap.size := by have := hbwE1.size; first | exact this | simpa using this
  have e_16 := bl_call e_15 hbwE1
  have B1_16 := cellk B1_15 hbwE1
  have P_16 := P_15.keep hbwE1
  have cP_16 := cellk cP_15 hbwE1
  have X1_16 := X1_15.keep hbwE1
  have cX1_16 := cellk cX1_15 hbwE1
  have X3_16 := own_keep X3_15 hbwE1
  have Q_16 := Q_15.keep hbwE1
  have cQ_16 := cellk cQ_14 hbwE1
  clear e_15 B1_15 P_15 cP_15 X1_15 cX1_15 X3_15 Q_15 cQ_14
  clear hbwE1
  go_upto_region 13 with fail
  have HS0_1 := Lib.hid (show wE1.drew.cell? ⟨w.heap.size, 0, none⟩ = some (.slice a1 L1.length c1) ∧ wE1.drew.cell? ⟨wX1.heap.size, 0, none⟩ = some (.slice (some ⟨gX1, 0, none⟩) L1.length L1.length) ∧ NodesIn wE1.drew (.slice (some ⟨gX1, 0, none⟩) L1.length L1.length) L1 ∧ Below wE1.heap.size wE1 wE1.drew from ⟨B1_16, cX1_16, X1_16.nodes, bl_drew (bl_refl _)⟩)
  have Hid_e := Lib.hid e_16
  clear e_16
  have Hid_B1 := Lib.hid B1_16
  clear B1_16
  have Hid_P := Lib.hid P_16
  clear P_16
  have Hid_cP := Lib.hid cP_16
  clear cP_16
  have Hid_X1 := Lib.hid X1_16
  clear X1_16
  have Hid_cX1 := Lib.hid cX1_16
  clear cX1_16
  have Hid_X3 := Lib.hid X3_16
  clear X3_16
  have Hid_Q := Lib.hid Q_16
  clear Q_16
  have Hid_cQ := Lib.hid cQ_16
  clear cQ_16
  go_cut [64] (fun sx wx => sx = .bool false ∧ Below wE1.heap.size wE1 wx)
  case first =>
    go_region_held3 (fun wx => wx.cell? ⟨w.heap.size, 0, none⟩ = some (.slice a1 L1.length c1) ∧ wx.cell? ⟨wX1.heap.size, 0, none⟩ = some (.slice (some ⟨gX1, 0, none⟩) L1.length L1.length) ∧ NodesIn wx (.slice (some ⟨gX1, 0, none⟩) L1.length L1.length) L1 ∧ Below wE1.heap.size wE1 wx) (first | exact HS0_1.out | exact keepB (by assumption) (by assumption)) (first | (go_at_call 24; refine (toShape_any _ L1 _ (H1.out.keep (bl_call Hid_e.out (And.right (And.right (And.right (by assumption)))))) hL1.out).mono ?_; rintro e wa ⟨va, rfl, hA, hba⟩; obtain ⟨ga', hga, _⟩ := id hA; subst hga) | (go_at_call 17; refine (eqShape_true _ _ L1 _ (And.left (And.right (And.right (by assumption)))) hA.nodes hL1.out).mono ?_; rintro e wd ⟨rfl, hbd⟩))
    all_goals (go_wp2_with fail; go_meet; exact ⟨rfl, And.right (And.right (And.right (by assumption)))⟩)
  case rest =>
    obtain ⟨rfl, hE1⟩ := hcut
    clear HS0_1
    have U1_e := Hid_e.out
    clear Hid_e
    have U1_B1 := Hid_B1.out
    clear Hid_B1
    have U1_P := Hid_P.out
    clear Hid_P
    have U1_cP := Hid_cP.out
    clear Hid_cP
    have U1_X1 := Hid_X1.out
    clear Hid_X1
    have U1_cX1 := Hid_cX1.out
    clear Hid_cX1
    have U1_X3 := Hid_X3.out
    clear Hid_X3
    have U1_Q := Hid_Q.out
    clear Hid_Q
    have U1_cQ := Hid_cQ.out
    clear Hid_cQ
    have zE1 : wE1.heap.size ≤ wc.heap.size := by have := hE1.size; first | exact this | simpa using this
    have e_17 := bl_call U1_e hE1
    have B1_17 := cellk U1_B1 hE1
    have P_17 := U1_P.keep hE1
    have cP_17 := cellk U1_cP hE1
    have X1_17 := U1_X1.keep hE1
    have cX1_17 := cellk U1_cX1 hE1
    have X3_17 := own_keep U1_X3 hE1
    have Q_17 := U1_Q.keep hE1
    have cQ_17 := cellk U1_cQ hE1
    clear U1_e U1_B1 U1_P U1_cP U1_X1 U1_cX1 U1_X3 U1_Q U1_cQ
    clear hE1
    go_wp2_with fail
    refine (toFloat32S_any _ _ _ (H3.out.keep e_17) hn3).mono ?_
    rintro e wY3 ⟨gY3, rfl, lY3, oY3, hbY3⟩
    have zY3 : wc.heap.size ≤ wY3.heap.size := by have := hbY3.size; first | exact this | simpa using this
    have e_18 := bl_call e_17 hbY3
    have B1_18 := cellk B1_17 hbY3
    have P_18 := P_17.keep hbY3
    have cP_18 := cellk cP_17 hbY3
    have X1_18 := X1_17.keep hbY3
    have cX1_18 := cellk cX1_17 hbY3
    have X3_18 := own_keep X3_17 hbY3
    have Q_18 := Q_17.keep hbY3
    have cQ_18 := cellk cQ_17 hbY3
    clear e_17 B1_17 P_17 cP_17 X1_17 cX1_17 X3_17 Q_17 cQ_17
    clear hbY3
    go_wp2_with fail
    refine (eqFloat32S_true _ _ _ _ (FIn_of_row rfl X3_18) (FIn_of_row rfl oY3) hn3).mono ?_
    rintro e w' ⟨rfl, mY3, he⟩
    subst w'
    clear oY3 lY3
    have e_19 := bl_drewN e_18 mY3
    have B1_19 := (show (wY3.drewN mY3).cell? ⟨w.heap.size, 0, none⟩ = some (.slice a1 L1.length c1) from B1_18)
    have P_19 := P_18.drewN mY3
    have cP_19 := (show (wY3.drewN mY3).cell? ⟨wP.heap.size, 0, none⟩ = some (.slice aP M.length nP) from cP_18)
    have X1_19 := X1_18.drewN mY3
    have cX1_19 := (show (wY3.drewN mY3).cell? ⟨wX1.heap.size, 0, none⟩ = some (.slice (some ⟨gX1, 0, none⟩) L1.length L1.length) from cX1_18)
    have X3_19 := own_drewN X3_18 mY3
    have Q_19 := Q_18.drewN mY3
    have cQ_19 := (show (wY3.drewN mY3).cell? ⟨wQ.heap.size, 0, none⟩ = some (.slice aQ M.length nQ) from cQ_18)
    clear e_18 B1_18 P_18 cP_18 X1_18 cX1_18 X3_18 Q_18 cQ_18
    obtain ⟨K1, hK1⟩ : ∃ K, 1 + (3 * L1.length + sumX L1) = K := ⟨_, rfl⟩
    have hsK1 : K1 ≤ 4194304 := by have := hL1.out; unfold tot at this; omega
    go_wp2_with fail
    refine (markShape_k1 K1 _ L1 _ _ _ hK1 X1_19 hL1.out).mono ?_
    rintro e wM1 ⟨rfl, hwwM1⟩
    have zwM1 : wY3.heap.size ≤ wM1.heap.size := by have := hwwM1.size; first | exact this | simpa using this
    clear X1_19
    clear cX1_19
    have e_20 := bl_within e_19 hwwM1 (by omega)
    have B1_20 := cellW B1_19 hwwM1 (by show w.heap.size < _ ∨ _ ≤ w.heap.size; omega)
    have P_20 := P_19.apart hwwM1 (by omega)
    have cP_20 := cellW cP_19 hwwM1 (by show wP.heap.size < _ ∨ _ ≤ wP.heap.size; omega)
    have X3_20 := row_within X3_19 hwwM1 (fun g hg => by simp [Value.ownBlock] at hg; omega)
    have Q_20 := Q_19.apart hwwM1 (by omega)
    have cQ_20 := cellW cQ_19 hwwM1 (by show wQ.heap.size < _ ∨ _ ≤ wQ.heap.size; omega)
    clear e_19 B1_19 P_19 cP_19 X3_19 Q_19 cQ_19
    clear hwwM1
    have nnK1 := nneg K1
    obtain ⟨K3, hK3⟩ : ∃ K, K1 + xs3.length = K := ⟨_, rfl⟩
    have hsK3 : K3 ≤ 10485760 := by omega
    go_wp2_with fail
    refine (markF_k K1 K3 _ xs3 _ _ _ hK3 rfl X3_20 (by omega)).mono ?_
    rintro e wM3 ⟨rfl, hgwM3⟩
    have hwwM3 := mark_within hgwM3 (Nat.le_refl _) (Nat.lt_succ_self _)
    have zwM3 : wM1.heap.size ≤ wM3.heap.size := by have := hwwM3.size; first | exact this | simpa using this
    clear X3_20
    have e_21 := bl_within e_20 hwwM3 (by omega)
    have B1_21 := cellW B1_20 hwwM3 (by show w.heap.size < _ ∨ _ ≤ w.heap.size; omega)
    have P_21 := P_20.apart hwwM3 (by omega)
    have cP_21 := cellW cP_20 hwwM3 (by show wP.heap.size < _ ∨ _ ≤ wP.heap.size; omega)
    have Q_21 := Q_20.apart hwwM3 (by omega)
    have cQ_21 := cellW cQ_20 hwwM3 (by show wQ.heap.size < _ ∨ _ ≤ wQ.heap.size; omega)
    clear e_20 B1_20 P_20 cP_20 Q_20 cQ_20
    clear hwwM3
    have nnK3 := nneg K3
    go_wp2_with fail
    refine (eqShape_true _ _ M _ Q_21.nodes P_21.nodes ht).mono ?_
    rintro e wE2 ⟨rfl, hbwE2⟩
    have zwE2 : wM3.heap.size ≤ wE2.heap.size := by have := hbwE2.size; first | exact this | simpa using this
    have e_22 := bl_call e_21 hbwE2
    have B1_22 := cellk B1_21 hbwE2
    have P_22 := P_21.keep hbwE2
    have cP_22 := cellk cP_21 hbwE2
    have Q_22 := Q_21.keep hbwE2
    have cQ_22 := cellk cQ_21 hbwE2
    clear e_21 B1_21 P_21 cP_21 Q_21 cQ_21
    clear hbwE2
    go_wp2_with fail
    refine (markShape_G _ M _ _ _ Q_22 hm).mono ?_
    rintro e wMG ⟨rfl, KG, hwG⟩
    have zMG : wE2.heap.size ≤ wMG.heap.size := by have := hwG.size; first | exact this | simpa using this
    clear Q_22
    have e_23 := bl_within e_22 hwG (by omega)
    have B1_23 := cellW B1_22 hwG (by show w.heap.size < _ ∨ _ ≤ w.heap.size; omega)
    have P_23 := P_22.apart hwG (by omega)
    have cP_23 := cellW cP_22 hwG (by show wP.heap.size < _ ∨ _ ≤ wP.heap.size; omega)
    have cQ_23 := cellW cQ_22 hwG (by show wQ.heap.size < _ ∨ _ ≤ wQ.heap.size; omega)
    clear e_22 B1_22 P_22 cP_22 cQ_22
    clear hwG
    have hkG := nneg (1 + (3 * M.length + sumX M))
    have hqG : (((1 + (3 * M.length + sumX M) : Nat) : Int) != ((1 + (3 * M.length + sumX M) : Nat) : Int)) = false := by simp
    go_wp2_with fail
    refine (heldShape_G _ _ _ _ _ KG).mono ?_
    rintro e wH1 ⟨rfl, hbH1⟩
    have zH1 : wMG.heap.size ≤ wH1.heap.size := by have := hbH1.size; first | exact this | simpa using this
    have e_24 := bl_call e_23 hbH1
    have B1_24 := cellk B1_23 hbH1
    have P_24 := P_23.keep hbH1
    have cP_24 := cellk cP_23 hbH1
    have cQ_24 := cellk cQ_23 hbH1
    have KG_24 := KG.keep hbH1
    clear e_23 B1_23 P_23 cP_23 cQ_23 KG
    clear hbH1
    go_wp2_with fail
    refine (toShape_own _ L1 _ (H1.out.keep e_24) hL1.out).mono ?_
    rintro e wC1 ⟨gC1, rfl, oC1, hbC1⟩
    have zC1 : wH1.heap.size ≤ wC1.heap.size := by have := hbC1.size; first | exact this | simpa using this
    have e_25 := bl_call e_24 hbC1
    have B1_25 := cellk B1_24 hbC1
    have P_25 := P_24.keep hbC1
    have cP_25 := cellk cP_24 hbC1
    have cQ_25 := cellk cQ_24 hbC1
    have KG_25 := KG_24.keep hbC1
    clear e_24 B1_24 P_24 cP_24 cQ_24 KG_24
    clear hbC1
    have pC1 : OwnSh wC1 (wH1.heap.size) wC1.heap.size (.slice (some ⟨gC1, 0, none⟩) L1.length L1.length) L1 := by first | exact oC1 | simpa using oC1
    clear oC1
    go_wp2_with fail
    refine (toFloat32S_any _ _ _ (H3.out.keep e_25) hn3).mono ?_
    rintro e wC3 ⟨gC3, rfl, lC3, oC3, hbC3⟩
    have zC3 : wC1.heap.size ≤ wC3.heap.size := by have := hbC3.size; first | exact this | simpa using this
    have e_26 := bl_call e_25 hbC3
    have B1_26 := cellk B1_25 hbC3
    have P_26 := P_25.keep hbC3
    have cP_26 := cellk cP_25 hbC3
    have cQ_26 := cellk cQ_25 hbC3
    have KG_26 := KG_25.keep hbC3
    have C1_26 := pC1.keep hbC3
    clear e_25 B1_25 P_25 cP_25 cQ_25 KG_25 pC1
    clear hbC3
    have xC3 : wC1.heap.size ≤ gC3 := by first | exact lC3 | simpa using lC3
    have yC3 : gC3 < wC3.heap.size := (oC3.lt _ rfl).2
    clear lC3
    go_wp2_with fail
    refine (HI.out _ _ _ _ _ C1_26 (NumV_row rfl oC3)).mono ?_
    rintro e wR ⟨vR, rfl, oR, hbR⟩
    obtain ⟨aR, nR, hvR⟩ := oR.form
    subst hvR
    have zR : wC3.heap.size ≤ wR.heap.size := by have := hbR.size; first | exact this | simpa using this
    have e_27 := bl_call e_26 hbR
    have B1_27 := cellk B1_26 hbR
    have P_27 := P_26.keep hbR
    have cP_27 := cellk cP_26 hbR
    have cQ_27 := cellk cQ_26 hbR
    have KG_27 := KG_26.keep hbR
    have C1_27 := C1_26.keep hbR
    have C3_27 := own_keep oC3 hbR
    clear e_26 B1_26 P_26 cP_26 cQ_26 KG_26 C1_26 oC3
    clear hbR
    have pR : OwnSh wR (wC3.heap.size) wR.heap.size (.slice aR M.length nR) M := by first | exact oR | simpa using oR
    clear oR
    have hb_28 := bl1 wR (.cells #[.slice aR M.length nR] 26)
    have cR_28 : (wR.alloc (.cells #[.slice aR M.length nR] 26)).cell? ⟨wR.heap.size, 0, none⟩ = some (.slice aR M.length nR) := by first | exact box1 wR (.slice aR M.length nR) 26 | simpa using box1 wR (.slice aR M.length nR) 26
    have e_29 := bl_call e_27 hb_28
    have B1_29 := cellk B1_27 hb_28
    have P_29 := P_27.keep hb_28
    have cP_29 := cellk cP_27 hb_28
    have cQ_29 := cellk cQ_27 hb_28
    have KG_29 := KG_27.keep hb_28
    have C1_29 := C1_27.keep hb_28
    have C3_29 := own_keep C3_27 hb_28
    have R_29 := pR.keep hb_28
    clear e_27 B1_27 P_27 cP_27 cQ_27 KG_27 C1_27 C3_27 pR
    clear hb_28
    clear C1_29
    clear C3_29
    go_wp2_with fail
    refine (eqShape_true _ _ M _ R_29.nodes P_29.nodes ht).mono ?_
    rintro e wE3 ⟨rfl, hbwE3⟩
    have zwE3 : wR.heap.size + 1 ≤ wE3.heap.size := by have := hbwE3.size; first | exact this | simpa using this
    have e_30 := bl_call e_29 hbwE3
    have B1_30 := cellk B1_29 hbwE3
    have P_30 := P_29.keep hbwE3
    have cP_30 := cellk cP_29 hbwE3
    have cQ_30 := cellk cQ_29 hbwE3
    have KG_30 := KG_29.keep hbwE3
    have R_30 := R_29.keep hbwE3
    have cR_30 := cellk cR_28 hbwE3
    clear e_29 B1_29 P_29 cP_29 cQ_29 KG_29 R_29 cR_28
    clear hbwE3
    clear R_30
    clear P_30
    clear cP_30
    clear cR_30
    go_wp2_with fail
    refine (heldShape_G _ _ _ _ _ KG_30).mono ?_
    rintro e wH2 ⟨rfl, hbH2⟩
    have e_31 := bl_call e_30 hbH2
    have B1_31 := cellk B1_30 hbH2
    have cQ_31 := cellk cQ_30 hbH2
    have KG_31 := KG_30.keep hbH2
    clear e_30 B1_30 cQ_30 KG_30
    go_wp2_with fail
    go_ret
    exact ⟨rfl, e_31⟩

theorem own : ownKnob Try.prog.godebug = none := by kernel_rfl
theorem laidOut : laidOutB Try.prog = true := by kernel_rfl

set_option maxRecDepth 100000 in
theorem lifted (os : Os) (started : os.Started) (H : Type) (enc : TypeId × Value → H) :
    ReturnsInHanded {} Try.checked os 9 .any (Rows.fnExactWrapShapeSpec.pre6 enc Try.prog Try.f9 Rows.fnExactWrapShapeRow.domain false) (Rows.fnExactWrapShapeSpec.post enc Try.prog Try.f9 false true false false) := by
  refine returnsInHanded_of_change (C := Try.checked) own started (by kernel_rfl) Try.func9
    (ChangeSpec.witness6 (enc := enc) (C := Try.checked) false ⟨#[], #[.int .i64 0, .agg #[.slice none 0 0], .int .i64 0, .slice none 0 0], []⟩ 8 (by kernel_rfl) (by kernel_rfl) (by kernel_rfl) (by kernel_rfl)) ?_
  intro W base args ds gs before hval0 hW hcnd _
  have hval : ∀ (j : Nat) t v, Try.f9.params[j]? = some t → args[j]? = some v → Value.okWide Try.prog W .any base t v := hval0
  have hW' := hW
  obtain ⟨p, q, hA0, hV, rfl, hfz, hnd⟩ := hW
  have hA : DataW.TrodAll enc Try.prog W 0 (fun _ => true) true Try.f9.params.toList args.toList ds p := hA0
  rw [Try.params9] at hA hval
  obtain ⟨v0, vs0, d0, ds0, p0, q0, hargs, rfl, rfl, h0, r0⟩ := trodAll_cons hA
  obtain ⟨v1, vs1, d1, ds1, p1, q1, rfl, rfl, rfl, h1, r1⟩ := trodAll_cons r0
  obtain ⟨v2, vs2, d2, ds2, p2, q2, rfl, rfl, rfl, h2, r2⟩ := trodAll_cons r1
  obtain ⟨v3, vs3, d3, ds3, p3, q3, rfl, rfl, rfl, h3, r3⟩ := trodAll_cons r2
  obtain ⟨rfl, rfl, rfl⟩ := trodAll_nil r3
  obtain rfl : args = #[v0, v1, v2, v3] := by cases args; simp_all
  obtain ⟨rfl, rfl⟩ := trodVars_none hV
  have k0 := h0
  have lt0 : ∀ x ∈ p0, x.block < W.heap.size := by obtain ⟨m, hm⟩ := k0; exact DataW.trod_lt m _ _ _ hm
  have k1 := h1
  have lt1 : ∀ x ∈ p1, x.block < W.heap.size := by obtain ⟨m, hm⟩ := k1; exact DataW.trod_lt m _ _ _ hm
  have k2 := h2
  have lt2 : ∀ x ∈ p2, x.block < W.heap.size := by obtain ⟨m, hm⟩ := k2; exact DataW.trod_lt m _ _ _ hm
  have k3 := h3
  have lt3 : ∀ x ∈ p3, x.block < W.heap.size := by obtain ⟨m, hm⟩ := k3; exact DataW.trod_lt m _ _ _ hm
  obtain ⟨a0, rfl, rfl, rfl, w0⟩ := open_int Try.underlying2 (hval 0 2 v0 rfl rfl) h0
  obtain ⟨sv1, L1, rfl, w1, s1⟩ := open_shape Try.underlying38 (by kernel_rfl) (by kernel_rfl) rfl Try.underlying36 Try.underlying107 (by kernel_rfl) (by kernel_rfl) Try.underlying2 Try.underlying2 Try.underlying2 Try.underlying46 Try.underlying61 (by kernel_rfl) (hval 1 38 v1 rfl rfl) h1
  obtain ⟨a2, rfl, rfl, rfl, w2⟩ := open_int Try.underlying2 (hval 2 2 v2 rfl rfl) h2
  obtain ⟨xs3, w3⟩ := open_f32s Try.underlying46 Try.underlying61 (by kernel_rfl) (hval 3 46 v3 rfl rfl) h3
  clear hA0 hval0
  refine (walk a0 w0 sv1 L1 a2 w2 v3 xs3 W w1 s1 w3).mono fun e W' ⟨he, bel⟩ => ?_
  subst he
  exact ⟨_, rfl, _, _, _, [], _, [], hW', trodAll_mk1 (shut_bool Try.underlying4 _), (trodAll_cons_mk (Below.trod laidOut (by kernel_rfl) (of_decide_eq_true (by kernel_rfl)) k0 bel lt0) (trodAll_cons_mk (Below.trod laidOut (by kernel_rfl) (of_decide_eq_true (by kernel_rfl)) k1 bel lt1) (trodAll_cons_mk (Below.trod laidOut (by kernel_rfl) (of_decide_eq_true (by kernel_rfl)) k2 bel lt2) (trodAll_cons_mk (Below.trod laidOut (by kernel_rfl) (of_decide_eq_true (by kernel_rfl)) k3 bel lt3) trodAll_mk0)))), rfl, bel.frame _, fun h => by cases h⟩

theorem over : Rows.fnExactWrapShapeRow.holds Try.pinned (OpenSpec.ofChange Rows.fnExactWrapShapeSpec) :=
  OpenClaim.holds_of_wide 9 Try.f9 rfl rfl rfl rfl rfl rfl rfl ⟨rfl, rfl, rfl, rfl, rfl⟩ rfl rfl rfl rfl rfl (by kernel_rfl) Try.func9 (by kernel_rfl)
    (of_decide_eq_true (by kernel_rfl)) (by unfold Func.isWrapper; first | (rw [if_pos (by decide +kernel)]; kernel_rfl) | (rw [if_neg (by decide +kernel)]; exact ⟨rfl, rfl⟩))
    (fun os started H enc _ => lifted os started H enc)

theorem proved : Rows.FnExactWrapShapeSaid := over
#print axioms proved
end Go.Proofs.Ytpbccoobkmahlaa.lawWrapShape
