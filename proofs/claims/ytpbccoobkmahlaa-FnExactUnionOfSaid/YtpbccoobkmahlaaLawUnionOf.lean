/- The law FnExactUnionOf returns true for all arguments. No conditions. -/
import Derived.Test.YtpbccoobkmahlaaUnI
namespace Go.Proofs.Ytpbccoobkmahlaa.lawUnionOf
open Go.ChangeShapes Go.WideShapes Go.ChangeAt Go.RowKit
open Go.Fl GL
set_option linter.unusedVariables false

set_option maxHeartbeats 32000000 in
set_option maxRecDepth 100000 in
theorem walk (v0 : Value) (LL0 : List (List Nd)) (w : World) (h0 : ShapesIn w v0 LL0) (s0 : SmallS LL0) : Calls Try.prog 3 #[v0] w fun e w' => e = .returned (.bool true) ∧ Below w.heap.size w w' := by
  obtain ⟨a0, c0, rfl, _⟩ := id h0
  have H0 := Lib.hid h0
  have S0 := Lib.hid s0
  clear h0 s0
  have e0 := bl_refl w
  go_enter Try.func3, Try.ntmps3
  go_wp2_with fail
  refine (szShapeS_any _ LL0 1048576 _ (H0.out.keep e0) S0.out (by omega)).mono ?_
  rintro e wz0 ⟨⟨hl0, rfl⟩ | ⟨hl0, rfl⟩, hbz0⟩
  rotate_left
  · go_wp2_with fail
    go_ret
    exact ⟨rfl, bl_call e0 hbz0⟩
  have zz0 : w.heap.size ≤ wz0.heap.size := by have := hbz0.size; first | exact this | simpa using this
  have e_1 := bl_call e0 hbz0
  clear e0
  have hT0 := Lib.hid hl0
  have hn1_0 := nneg (1048576 - totS LL0)
  obtain ⟨M, hM⟩ : ∃ M, unionL LL0 = M := ⟨_, rfl⟩
  obtain ⟨b, hb⟩ : ∃ b, unionB LL0 = b := ⟨_, rfl⟩
  have hm : M.length ≤ 16 ∧ sumX M ≤ 64 := by rw [← hM]; exact union_small _
  have HS := Lib.hid (fun (W : World) (u0 : Value) (q0 : ShR W u0 LL0) => show Calls Try.prog 14 #[u0] W (SOut W M b) by rw [← hM, ← hb]; exact spec_UnionOf_any u0 LL0 W q0 hT0.out)
  have HI := Lib.hid (fun (W : World) (u0 : Value) (q0 : ShR W u0 LL0) => show Calls Try.prog 16 #[u0] W (SOut W M b) by rw [← hM, ← hb]; exact UnionOf_any u0 LL0 W q0 hT0.out)
  have hq := beq_self_bool b
  have ht : tot M ≤ 1048576 := by unfold tot; omega
  clear hM hb
  go_wp2_with fail
  refine (toShapeS_own _ LL0 _ (H0.out.keep e_1) hT0.out).mono ?_
  rintro e wA0 ⟨gA0, rfl, oA0, hbA0⟩
  have zA0 : wz0.heap.size ≤ wA0.heap.size := by have := hbA0.size; first | exact this | simpa using this
  have e_2 := bl_call e_1 hbA0
  clear e_1
  clear hbA0
  have pA0 : OwnSS wA0 (wz0.heap.size) wA0.heap.size (.slice (some ⟨gA0, 0, none⟩) LL0.length LL0.length) LL0 := by first | exact oA0 | simpa using oA0
  clear oA0
  go_wp2_with fail
  refine (HS.out _ _ pA0.read).mono ?_
  rintro e wP ⟨vP, rfl, oP, hbP⟩
  obtain ⟨aP, nP, hvP⟩ := oP.form
  subst hvP
  have zP : wA0.heap.size ≤ wP.heap.size := by have := hbP.size; first | exact this | simpa using this
  have e_3 := bl_call e_2 hbP
  have A0_3 := pA0.keep hbP
  clear e_2 pA0
  clear hbP
  have pP : OwnSh wP (wA0.heap.size) wP.heap.size (.slice aP M.length nP) M := by first | exact oP | simpa using oP
  clear oP
  have hb_4 := bl1 wP (.cells #[.slice aP M.length nP] 26)
  have cP_4 : (wP.alloc (.cells #[.slice aP M.length nP] 26)).cell? ⟨wP.heap.size, 0, none⟩ = some (.slice aP M.length nP) := by first | exact box1 wP (.slice aP M.length nP) 26 | (simp; done) | simpa using box1 wP (.slice aP M.length nP) 26
  have e_5 := bl_call e_3 hb_4
  have A0_5 := A0_3.keep hb_4
  have P_5 := pP.keep hb_4
  clear e_3 A0_3 pP
  clear hb_4
  clear A0_5
  go_wp2_with fail
  refine (toShapeS_own _ LL0 _ (H0.out.keep e_5) hT0.out).mono ?_
  rintro e wX0 ⟨gX0, rfl, oX0, hbX0⟩
  have zX0 : wP.heap.size + 1 ≤ wX0.heap.size := by have := hbX0.size; first | exact this | simpa using this
  have e_6 := bl_call e_5 hbX0
  have P_6 := P_5.keep hbX0
  have cP_6 := cellk cP_4 hbX0
  clear e_5 P_5 cP_4
  clear hbX0
  have pX0 : OwnSS wX0 (wP.heap.size + 1) wX0.heap.size (.slice (some ⟨gX0, 0, none⟩) LL0.length LL0.length) LL0 := by first | exact oX0 | simpa using oX0
  clear oX0
  go_wp2_with fail
  refine (HI.out _ _ pX0.read).mono ?_
  rintro e wQ ⟨vQ, rfl, oQ, hbQ⟩
  obtain ⟨aQ, nQ, hvQ⟩ := oQ.form
  subst hvQ
  have zQ : wX0.heap.size ≤ wQ.heap.size := by have := hbQ.size; first | exact this | simpa using this
  have e_7 := bl_call e_6 hbQ
  have P_7 := P_6.keep hbQ
  have cP_7 := cellk cP_6 hbQ
  have X0_7 := pX0.keep hbQ
  clear e_6 P_6 cP_6 pX0
  clear hbQ
  have pQ : OwnSh wQ (wX0.heap.size) wQ.heap.size (.slice aQ M.length nQ) M := by first | exact oQ | simpa using oQ
  clear oQ
  have hb_8 := bl1 wQ (.cells #[.slice aQ M.length nQ] 26)
  have cQ_8 : (wQ.alloc (.cells #[.slice aQ M.length nQ] 26)).cell? ⟨wQ.heap.size, 0, none⟩ = some (.slice aQ M.length nQ) := by first | exact box1 wQ (.slice aQ M.length nQ) 26 | (simp; done) | simpa using box1 wQ (.slice aQ M.length nQ) 26
  have e_9 := bl_call e_7 hb_8
  have P_9 := P_7.keep hb_8
  have cP_9 := cellk cP_7 hb_8
  have X0_9 := X0_7.keep hb_8
  have Q_9 := pQ.keep hb_8
  clear e_7 P_7 cP_7 X0_7 pQ
  clear hb_8
  go_wp2_with fail
  refine (eqShape_true _ _ M _ Q_9.nodes P_9.nodes ht).mono ?_
  rintro e wE1 ⟨rfl, hbwE1⟩
  have zwE1 : wQ.heap.size + 1 ≤ wE1.heap.size := by have := hbwE1.size; first | exact this | simpa using this
  have e_10 := bl_call e_9 hbwE1
  have P_10 := P_9.keep hbwE1
  have cP_10 := cellk cP_9 hbwE1
  have X0_10 := X0_9.keep hbwE1
  have Q_10 := Q_9.keep hbwE1
  have cQ_10 := cellk cQ_8 hbwE1
  clear e_9 P_9 cP_9 X0_9 Q_9 cQ_8
  clear hbwE1
  go_wp2_with fail
  refine (toShapeS_own _ LL0 _ (H0.out.keep e_10) hT0.out).mono ?_
  rintro e wY0 ⟨gY0, rfl, oY0, hbY0⟩
  have zY0 : wE1.heap.size ≤ wY0.heap.size := by have := hbY0.size; first | exact this | simpa using this
  have e_11 := bl_call e_10 hbY0
  have P_11 := P_10.keep hbY0
  have cP_11 := cellk cP_10 hbY0
  have X0_11 := X0_10.keep hbY0
  have Q_11 := Q_10.keep hbY0
  have cQ_11 := cellk cQ_10 hbY0
  clear e_10 P_10 cP_10 X0_10 Q_10 cQ_10
  clear hbY0
  have pY0 : OwnSS wY0 (wE1.heap.size) wY0.heap.size (.slice (some ⟨gY0, 0, none⟩) LL0.length LL0.length) LL0 := by first | exact oY0 | simpa using oY0
  clear oY0
  go_wp2_with fail
  refine (eqShapeS_true _ _ LL0 _ X0_11.read pY0.read hT0.out).mono ?_
  rintro e wEX ⟨rfl, hbEX⟩
  have zEX : wY0.heap.size ≤ wEX.heap.size := by have := hbEX.size; first | exact this | simpa using this
  clear pY0
  have e_12 := bl_call e_11 hbEX
  have P_12 := P_11.keep hbEX
  have cP_12 := cellk cP_11 hbEX
  have X0_12 := X0_11.keep hbEX
  have Q_12 := Q_11.keep hbEX
  have cQ_12 := cellk cQ_11 hbEX
  clear e_11 P_11 cP_11 X0_11 Q_11 cQ_11
  clear hbEX
  go_wp2_with fail
  refine (markShapeS_one _ LL0 _ _ _ X0_12 hT0.out).mono ?_
  rintro e wM0 ⟨K0, hK0, rfl, hwM0⟩
  have zM0 : wEX.heap.size ≤ wM0.heap.size := by have := hwM0.size; first | exact this | simpa using this
  clear X0_12
  have e_13 := bl_within e_12 hwM0 (by omega)
  have P_13 := P_12.apart hwM0 (by omega)
  have cP_13 := cellW cP_12 hwM0 (by show wP.heap.size < _ ∨ _ ≤ wP.heap.size; omega)
  have Q_13 := Q_12.apart hwM0 (by omega)
  have cQ_13 := cellW cQ_12 hwM0 (by show wQ.heap.size < _ ∨ _ ≤ wQ.heap.size; omega)
  clear e_12 P_12 cP_12 Q_12 cQ_12
  clear hwM0
  have nnK := nneg K0
  go_wp2_with fail
  refine (eqShape_true _ _ M _ Q_13.nodes P_13.nodes ht).mono ?_
  rintro e wE2 ⟨rfl, hbwE2⟩
  have zwE2 : wM0.heap.size ≤ wE2.heap.size := by have := hbwE2.size; first | exact this | simpa using this
  have e_14 := bl_call e_13 hbwE2
  have P_14 := P_13.keep hbwE2
  have cP_14 := cellk cP_13 hbwE2
  have Q_14 := Q_13.keep hbwE2
  have cQ_14 := cellk cQ_13 hbwE2
  clear e_13 P_13 cP_13 Q_13 cQ_13
  clear hbwE2
  go_wp2_with fail
  refine (markShape_G _ M _ _ _ Q_14 hm).mono ?_
  rintro e wMG ⟨rfl, KG, hwG⟩
  have zMG : wE2.heap.size ≤ wMG.heap.size := by have := hwG.size; first | exact this | simpa using this
  clear Q_14
  have e_15 := bl_within e_14 hwG (by omega)
  have P_15 := P_14.apart hwG (by omega)
  have cP_15 := cellW cP_14 hwG (by show wP.heap.size < _ ∨ _ ≤ wP.heap.size; omega)
  have cQ_15 := cellW cQ_14 hwG (by show wQ.heap.size < _ ∨ _ ≤ wQ.heap.size; omega)
  clear e_14 P_14 cP_14 cQ_14
  clear hwG
  have hkG := nneg (1 + (3 * M.length + sumX M))
  have hqG : (((1 + (3 * M.length + sumX M) : Nat) : Int) != ((1 + (3 * M.length + sumX M) : Nat) : Int)) = false := by simp
  go_wp2_with fail
  refine (heldShape_G _ _ _ _ _ KG).mono ?_
  rintro e wH1 ⟨rfl, hbH1⟩
  have zH1 : wMG.heap.size ≤ wH1.heap.size := by have := hbH1.size; first | exact this | simpa using this
  have e_16 := bl_call e_15 hbH1
  have P_16 := P_15.keep hbH1
  have cP_16 := cellk cP_15 hbH1
  have cQ_16 := cellk cQ_15 hbH1
  have KG_16 := KG.keep hbH1
  clear e_15 P_15 cP_15 cQ_15 KG
  clear hbH1
  go_wp2_with fail
  refine (toShapeS_own _ LL0 _ (H0.out.keep e_16) hT0.out).mono ?_
  rintro e wC0 ⟨gC0, rfl, oC0, hbC0⟩
  have zC0 : wH1.heap.size ≤ wC0.heap.size := by have := hbC0.size; first | exact this | simpa using this
  have e_17 := bl_call e_16 hbC0
  have P_17 := P_16.keep hbC0
  have cP_17 := cellk cP_16 hbC0
  have cQ_17 := cellk cQ_16 hbC0
  have KG_17 := KG_16.keep hbC0
  clear e_16 P_16 cP_16 cQ_16 KG_16
  clear hbC0
  have pC0 : OwnSS wC0 (wH1.heap.size) wC0.heap.size (.slice (some ⟨gC0, 0, none⟩) LL0.length LL0.length) LL0 := by first | exact oC0 | simpa using oC0
  clear oC0
  go_wp2_with fail
  refine (HI.out _ _ pC0.read).mono ?_
  rintro e wR ⟨vR, rfl, oR, hbR⟩
  obtain ⟨aR, nR, hvR⟩ := oR.form
  subst hvR
  have zR : wC0.heap.size ≤ wR.heap.size := by have := hbR.size; first | exact this | simpa using this
  have e_18 := bl_call e_17 hbR
  have P_18 := P_17.keep hbR
  have cP_18 := cellk cP_17 hbR
  have cQ_18 := cellk cQ_17 hbR
  have KG_18 := KG_17.keep hbR
  have C0_18 := pC0.keep hbR
  clear e_17 P_17 cP_17 cQ_17 KG_17 pC0
  clear hbR
  have pR : OwnSh wR (wC0.heap.size) wR.heap.size (.slice aR M.length nR) M := by first | exact oR | simpa using oR
  clear oR
  have hb_19 := bl1 wR (.cells #[.slice aR M.length nR] 26)
  have cR_19 : (wR.alloc (.cells #[.slice aR M.length nR] 26)).cell? ⟨wR.heap.size, 0, none⟩ = some (.slice aR M.length nR) := by first | exact box1 wR (.slice aR M.length nR) 26 | (simp; done) | simpa using box1 wR (.slice aR M.length nR) 26
  have e_20 := bl_call e_18 hb_19
  have P_20 := P_18.keep hb_19
  have cP_20 := cellk cP_18 hb_19
  have cQ_20 := cellk cQ_18 hb_19
  have KG_20 := KG_18.keep hb_19
  have C0_20 := C0_18.keep hb_19
  have R_20 := pR.keep hb_19
  clear e_18 P_18 cP_18 cQ_18 KG_18 C0_18 pR
  clear hb_19
  clear C0_20
  go_wp2_with fail
  refine (eqShape_true _ _ M _ R_20.nodes P_20.nodes ht).mono ?_
  rintro e wE3 ⟨rfl, hbwE3⟩
  have zwE3 : wR.heap.size + 1 ≤ wE3.heap.size := by have := hbwE3.size; first | exact this | simpa using this
  have e_21 := bl_call e_20 hbwE3
  have P_21 := P_20.keep hbwE3
  have cP_21 := cellk cP_20 hbwE3
  have cQ_21 := cellk cQ_20 hbwE3
  have KG_21 := KG_20.keep hbwE3
  have R_21 := R_20.keep hbwE3
  have cR_21 := cellk cR_19 hbwE3
  clear e_20 P_20 cP_20 cQ_20 KG_20 R_20 cR_19
  clear hbwE3
  clear R_21
  clear P_21
  clear cP_21
  clear cR_21
  go_wp2_with fail
  refine (heldShape_G _ _ _ _ _ KG_21).mono ?_
  rintro e wH2 ⟨rfl, hbH2⟩
  have e_22 := bl_call e_21 hbH2
  have cQ_22 := cellk cQ_21 hbH2
  have KG_22 := KG_21.keep hbH2
  clear e_21 cQ_21 KG_21
  go_wp2_with fail
  go_ret
  exact ⟨rfl, e_22⟩

theorem own : ownKnob Try.prog.godebug = none := by kernel_rfl
theorem laidOut : laidOutB Try.prog = true := by kernel_rfl

set_option maxRecDepth 100000 in
theorem lifted (os : Os) (started : os.Started) (H : Type) (enc : TypeId × Value → H) :
    ReturnsInHanded {} Try.checked os 3 .any (Rows.fnExactUnionOfSpec.pre6 enc Try.prog Try.f3 Rows.fnExactUnionOfRow.domain false) (Rows.fnExactUnionOfSpec.post enc Try.prog Try.f3 false true false false) := by
  refine returnsInHanded_of_change (C := Try.checked) own started (by kernel_rfl) Try.func3
    (ChangeSpec.witness6 (enc := enc) (C := Try.checked) false ⟨#[], #[.slice none 0 0], []⟩ 8 (by kernel_rfl) (by kernel_rfl) (by kernel_rfl) (by kernel_rfl)) ?_
  intro W base args ds gs before hval0 hW hcnd _
  have hval : ∀ (j : Nat) t v, Try.f3.params[j]? = some t → args[j]? = some v → Value.okWide Try.prog W .any base t v := hval0
  have hW' := hW
  obtain ⟨p, q, hA0, hV, rfl, hfz, hnd⟩ := hW
  have hA : DataW.TrodAll enc Try.prog W 0 (fun _ => true) true Try.f3.params.toList args.toList ds p := hA0
  rw [Try.params3] at hA hval
  obtain ⟨v0, vs0, d0, ds0, p0, q0, hargs, rfl, rfl, h0, r0⟩ := trodAll_cons hA
  obtain ⟨rfl, rfl, rfl⟩ := trodAll_nil r0
  obtain rfl : args = #[v0] := by cases args; simp_all
  obtain ⟨rfl, rfl⟩ := trodVars_none hV
  have k0 := h0
  have lt0 : ∀ x ∈ p0, x.block < W.heap.size := by obtain ⟨m, hm⟩ := k0; exact DataW.trod_lt m _ _ _ hm
  obtain ⟨LL0, w0, s0⟩ := open_shapes Try.underlying22 Try.underlying38 (by kernel_rfl) (by kernel_rfl) rfl Try.underlying36 Try.underlying107 (by kernel_rfl) (by kernel_rfl) Try.underlying2 Try.underlying2 Try.underlying2 Try.underlying46 Try.underlying61 (by kernel_rfl) (hval 0 22 v0 rfl rfl) h0
  clear hA0 hval0
  refine (walk v0 LL0 W w0 s0).mono fun e W' ⟨he, bel⟩ => ?_
  subst he
  exact ⟨_, rfl, _, _, _, [], _, [], hW', trodAll_mk1 (shut_bool Try.underlying4 _), (trodAll_cons_mk (Below.trod laidOut (by kernel_rfl) (of_decide_eq_true (by kernel_rfl)) k0 bel lt0) trodAll_mk0), rfl, bel.frame _, fun h => by cases h⟩

theorem over : Rows.fnExactUnionOfRow.holds Try.pinned (OpenSpec.ofChange Rows.fnExactUnionOfSpec) :=
  OpenClaim.holds_of_wide 3 Try.f3 rfl rfl rfl rfl rfl rfl rfl ⟨rfl, rfl, rfl, rfl, rfl⟩ rfl rfl rfl rfl rfl (by kernel_rfl) Try.func3 (by kernel_rfl)
    (of_decide_eq_true (by kernel_rfl)) (by unfold Func.isWrapper; first | (rw [if_pos (by decide +kernel)]; kernel_rfl) | (rw [if_neg (by decide +kernel)]; exact ⟨rfl, rfl⟩))
    (fun os started H enc _ => lifted os started H enc)

theorem proved : Rows.FnExactUnionOfSaid := over
#print axioms proved
end Go.Proofs.Ytpbccoobkmahlaa.lawUnionOf
