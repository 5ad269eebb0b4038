/- The law FnExactOneNode returns true for every kind and list of numbers. No conditions. -/
import Derived.Test.YtpbccoobkmahlaaGLaw
import Derived.Deep.Cut
import Derived.Deep.DeepCutAuto
namespace Go.Proofs.Ytpbccoobkmahlaa.lawOneNode
open GL
open Go.ChangeShapes Go.WideShapes Go.ChangeAt Go.RowKit
open Go.Fl
set_option linter.unusedVariables false

set_option maxHeartbeats 8000000 in
set_option maxRecDepth 100000 in
theorem walk (k : Int) (_ : (Lit.int IntKind.i64 k).wf = true) (v : Value) (xs : List Nat) (w : World) (hin : FIn w v xs) : Calls Try.prog 7 #[.int .i64 k, v] w fun e w' => e = .returned (.bool true) ∧ Below w.heap.size w w' := by
  obtain ⟨av, cv, rfl, _⟩ := id hin
  by_cases hn : xs.length ≤ 1048576
  rotate_left
  · have hd : decide ((1048576 : Int) < xs.length) = true := by simp; omega
    go_enter Try.func7, Try.ntmps7
    go_wp2_with fail
    go_ret
    exact ⟨rfl, bl_refl _⟩
  have hd : decide ((1048576 : Int) < xs.length) = false := by simp; omega
  have H := Lib.hid hin
  obtain ⟨M, hM⟩ : ∃ M, shV [⟨k, 0, 0, xs⟩] = M := ⟨_, rfl⟩
  obtain ⟨b, hb⟩ : ∃ b, valid [⟨k, 0, 0, xs⟩] = b := ⟨_, rfl⟩
  have hm : M.length ≤ 16 ∧ sumX M ≤ 64 := by rw [← hM]; exact shV_small _
  have HS := Lib.hid (fun (W : World) (u : Value) (hu : FIn W u xs) => show Calls Try.prog 30 #[.int .i64 k, u] W (SOut W M b) by rw [← hM, ← hb]; exact spec_OneNode_any k u xs W hu hn)
  have HI := Lib.hid (fun (W : World) (u : Value) (hu : FIn W u xs) => show Calls Try.prog 32 #[.int .i64 k, u] W (SOut W M b) by rw [← hM, ← hb]; exact OneNode_any k u xs W hu hn)
  have hq := beq_self_bool b
  have ht : tot M ≤ 1048576 := by unfold tot; omega
  clear hin hM hb
  go_enter Try.func7, Try.ntmps7
  go_wp2_with fail
  refine (toFloat32S_any _ _ _ H.out hn).mono ?_
  rintro e w1 ⟨g1, rfl, hg1, ho1, hb1⟩
  go_wp2_with fail
  refine (HS.out _ _ (FIn_of_row rfl ho1)).mono ?_
  rintro e w2 ⟨v0, rfl, S2, hb2⟩
  obtain ⟨a0, n0, hv0⟩ := S2.form
  subst hv0
  have e2 := bl_call hb1 hb2
  have hb3 := bl1 w2 (.cells #[.slice a0 M.length n0] 26)
  have c3 := box1 w2 (.slice a0 M.length n0) 26
  have S3 := S2.keep hb3
  have e3 := bl_call e2 hb3
  have e3s := e2.size
  have z3 := hb3.size
  clear hb1 hb2 hb3 ho1 hg1 e2
  go_wp2_with fail
  refine (toFloat32S_any _ _ _ (H.out.keep e3) hn).mono ?_
  rintro e w4 ⟨g4, rfl, hg4, ho4, hb4⟩
  have e4 := bl_call e3 hb4
  have e4s := e4.size
  have c4 := cellk c3 hb4
  have S4 := S3.keep hb4
  have z4 := hb4.size
  have x4 : g4 < w4.heap.size := (ho4.lt g4 rfl).2
  clear hb4 c3 S3 e3
  go_wp2_with fail
  refine (HI.out _ _ (FIn_of_row rfl ho4)).mono ?_
  rintro e w5 ⟨v5, rfl, G5, hb5⟩
  obtain ⟨a5, n5, hv5⟩ := G5.form
  subst hv5
  have e5 := bl_call e4 hb5
  have c5 := cellk c4 hb5
  have S5 := S4.keep hb5
  have o5 := own_keep ho4 hb5
  have z5 := hb5.size
  have hb6 := bl1 w5 (.cells #[.slice a5 M.length n5] 26)
  have d6 := box1 w5 (.slice a5 M.length n5) 26
  have e6 := bl_call e5 hb6
  have c6 := cellk c5 hb6
  have S6 := S5.keep hb6
  have G6 := G5.keep hb6
  have o6 := own_keep o5 hb6
  clear hb5 e4 c4 S4 ho4 e5 c5 S5 G5 o5
  have z6 := hb6.size
  clear hb6
  go_wp2_with fail
  refine (eqShape_true _ _ M _ G6.nodes S6.nodes ht).mono ?_
  rintro e w7 ⟨rfl, hb7⟩
  have e7 := bl_call e6 hb7
  have c7 := cellk c6 hb7
  have d7 := cellk d6 hb7
  have S7 := S6.keep hb7
  have G7 := G6.keep hb7
  have o7 := own_keep o6 hb7
  clear e6 c6 d6 S6 G6 o6
  go_wp2_with fail
  refine (toFloat32S_any _ _ _ (H.out.keep e7) hn).mono ?_
  rintro e w8 ⟨g8, rfl, hg8, ho8, hb8⟩
  have z8' := hb8.size
  have e8 := bl_call e7 hb8
  have c8 := cellk c7 hb8
  have d8 := cellk d7 hb8
  have S8 := S7.keep hb8
  have G8 := G7.keep hb8
  have o8 := own_keep o7 hb8
  clear e7 c7 d7 S7 G7 o7 hb8
  go_wp2_with fail
  refine (eqFloat32S_true _ _ _ _ (FIn_of_row rfl o8) (FIn_of_row rfl ho8) hn).mono ?_
  rintro e w' ⟨rfl, n9, he⟩
  subst w'
  go_wp2_with fail
  refine (markedF_one _ xs _ _ _ rfl (own_drewN o8 _) (by omega)).mono ?_
  rintro e w9 ⟨rfl, ho9, hg9⟩
  have hg9' := grown_of_drewN hg9
  have hw9 := mark_within hg9' hg4 x4
  have e9 := bl_within e8 hw9 (Nat.le_trans e3s z3)
  have c9 := cellW c8 hw9 (.inl (by simp))
  have d9 := cellW d8 hw9 (.inr z5)
  have S9 := S8.apart hw9 (.inl z3)
  have G9 := G8.apart hw9 (.inr (Nat.le_refl _))
  clear hg9 hg9' hw9 e8 c8 d8 S8 G8 o8 ho8 ho9
  have hk9 := nneg (1 + xs.length)
  go_wp2_with fail
  refine (eqShape_true _ _ M _ G9.nodes S9.nodes ht).mono ?_
  rintro e w10 ⟨rfl, hb10⟩
  have e10 := bl_call e9 hb10
  have c10 := cellk c9 hb10
  have d10 := cellk d9 hb10
  have S10 := S9.keep hb10
  have G10 := G9.keep hb10
  clear e9 c9 d9 S9 G9 hb10
  go_wp2_with fail
  refine (markShape_G _ M _ _ _ G10 hm).mono ?_
  rintro e w11 ⟨rfl, K11, hw11⟩
  have e11 := bl_within e10 hw11 e4s
  have c11 := cellW c10 hw11 (.inl (Nat.lt_of_lt_of_le (by simp) z4))
  have d11 := cellW d10 hw11 (.inr (Nat.le_refl _))
  have S11 := S10.apart hw11 (.inl (Nat.le_trans z3 z4))
  clear hw11 e10 c10 d10 S10 G10
  have hk11 := nneg (1 + (3 * M.length + sumX M))
  have hq11 : (((1 + (3 * M.length + sumX M) : Nat) : Int) != ((1 + (3 * M.length + sumX M) : Nat) : Int)) = false := by simp
  go_wp2_with fail
  refine (heldShape_G _ _ _ _ _ K11).mono ?_
  rintro e w12 ⟨rfl, hb12⟩
  have e12 := bl_call e11 hb12
  have c12 := cellk c11 hb12
  have d12 := cellk d11 hb12
  have S12 := S11.keep hb12
  have K12 := K11.keep hb12
  clear e11 c11 d11 S11 K11 hb12
  go_wp2_with fail
  refine (toFloat32S_any _ _ _ (H.out.keep e12) hn).mono ?_
  rintro e w13 ⟨g13, rfl, hg13, ho13, hb13⟩
  have e13 := bl_call e12 hb13
  have c13 := cellk c12 hb13
  have d13 := cellk d12 hb13
  have S13 := S12.keep hb13
  have K13 := K12.keep hb13
  clear e12 c12 d12 S12 K12 hb13
  go_wp2_with fail
  refine (HI.out _ _ (FIn_of_row rfl ho13)).mono ?_
  rintro e w14 ⟨v14, rfl, G14, hb14⟩
  obtain ⟨a14, n14, hv14⟩ := G14.form
  subst hv14
  have hb15 := bl1 w14 (.cells #[.slice a14 M.length n14] 26)
  have h15 := box1 w14 (.slice a14 M.length n14) 26
  have e15 := bl_call (bl_call e13 hb14) hb15
  have c15 := cellk (cellk c13 hb14) hb15
  have d15 := cellk (cellk d13 hb14) hb15
  have S15 := (S13.keep hb14).keep hb15
  have K15 := (K13.keep hb14).keep hb15
  have G15 := G14.keep hb15
  clear e13 c13 d13 S13 K13 hb14 G14 ho13 hb15
  go_wp2_with fail
  refine (eqShape_true _ _ M _ G15.nodes S15.nodes ht).mono ?_
  rintro e w16 ⟨rfl, hb16⟩
  have e16 := bl_call e15 hb16
  have d16 := cellk d15 hb16
  have K16 := K15.keep hb16
  clear e15 c15 d15 S15 K15 G15 hb16 h15
  go_wp2_with fail
  refine (heldShape_G _ _ _ _ _ K16).mono ?_
  rintro e w17 ⟨rfl, hb17⟩
  have e17 := bl_call e16 hb17
  go_wp2_with fail
  go_ret
  exact ⟨rfl, e17⟩

theorem own : ownKnob Try.prog.godebug = none := by kernel_rfl
theorem laidOut : laidOutB Try.prog = true := by kernel_rfl

set_option maxRecDepth 100000 in
theorem lifted (os : Os) (started : os.Started) (H : Type) (enc : TypeId × Value → H) :
    ReturnsInHanded {} Try.checked os 7 .any (Rows.fnExactOneNodeSpec.pre6 enc Try.prog Try.f7 Rows.fnExactOneNodeRow.domain false) (Rows.fnExactOneNodeSpec.post enc Try.prog Try.f7 false true false false) := by
  refine returnsInHanded_of_change (C := Try.checked) own started (by kernel_rfl) Try.func7
    (ChangeSpec.witness6 (enc := enc) (C := Try.checked) false ⟨#[], #[.int .i64 0, .slice none 0 0], []⟩ 8 (by kernel_rfl) (by kernel_rfl) (by kernel_rfl) (by kernel_rfl)) ?_
  intro W base args ds gs before hval0 hW hcnd _
  have hval : ∀ (j : Nat) t v, Try.f7.params[j]? = some t → args[j]? = some v → Value.okWide Try.prog W .any base t v := hval0
  have hW' := hW
  obtain ⟨p, q, hA0, hV, rfl, hfz, hnd⟩ := hW
  have hA : DataW.TrodAll enc Try.prog W 0 (fun _ => true) true Try.f7.params.toList args.toList ds p := hA0
  rw [Try.params7] at hA hval
  obtain ⟨v0, vs0, d0, ds0, p0, q0, hargs, rfl, rfl, h0, r0⟩ := trodAll_cons hA
  obtain ⟨v1, vs1, d1, ds1, p1, q1, rfl, rfl, rfl, h1, r1⟩ := trodAll_cons r0
  obtain ⟨rfl, rfl, rfl⟩ := trodAll_nil r1
  obtain rfl : args = #[v0, v1] := by cases args; simp_all
  obtain ⟨rfl, rfl⟩ := trodVars_none hV
  have k0 := h0
  have lt0 : ∀ x ∈ p0, x.block < W.heap.size := by obtain ⟨m, hm⟩ := k0; exact DataW.trod_lt m _ _ _ hm
  have k1 := h1
  have lt1 : ∀ x ∈ p1, x.block < W.heap.size := by obtain ⟨m, hm⟩ := k1; exact DataW.trod_lt m _ _ _ hm
  obtain ⟨a0, rfl, rfl, rfl, w0⟩ := open_int Try.underlying2 (hval 0 2 v0 rfl rfl) h0
  obtain ⟨xs1, w1⟩ := open_f32s Try.underlying46 Try.underlying61 (by kernel_rfl) (hval 1 46 v1 rfl rfl) h1
  clear hA0 hval0
  refine (walk a0 w0 v1 xs1 W w1).mono fun e W' ⟨he, bel⟩ => ?_
  subst he
  exact ⟨_, rfl, _, _, _, [], _, [], hW', trodAll_mk1 (shut_bool Try.underlying4 _), (trodAll_cons_mk (Below.trod laidOut (by kernel_rfl) (of_decide_eq_true (by kernel_rfl)) k0 bel lt0) (trodAll_cons_mk (Below.trod laidOut (by kernel_rfl) (of_decide_eq_true (by kernel_rfl)) k1 bel lt1) trodAll_mk0)), rfl, bel.frame _, fun h => by cases h⟩

theorem over : Rows.fnExactOneNodeRow.holds Try.pinned (OpenSpec.ofChange Rows.fnExactOneNodeSpec) :=
  OpenClaim.holds_of_wide 7 Try.f7 rfl rfl rfl rfl rfl rfl rfl ⟨rfl, rfl, rfl, rfl, rfl⟩ rfl rfl rfl rfl rfl (by kernel_rfl) Try.func7 (by kernel_rfl)
    (of_decide_eq_true (by kernel_rfl)) (by unfold Func.isWrapper; first | (rw [if_pos (by decide +kernel)]; kernel_rfl) | (rw [if_neg (by decide +kernel)]; exact ⟨rfl, rfl⟩))
    (fun os started H enc _ => lifted os started H enc)

theorem proved : Rows.FnExactOneNodeSaid := over
#print axioms proved
end Go.Proofs.Ytpbccoobkmahlaa.lawOneNode
