/- The law FnExactPlaceOn returns true for every ray and every number. No conditions. -/
import Derived.Test.YtepanenjhfmoiaaRay
namespace Go.Proofs.Ytepanenjhfmoiaa.lawPlaceOn
open Go.ChangeShapes Go.WideShapes Go.ChangeAt Go.RowKit
open Go.Fl
set_option linter.unusedVariables false

theorem walk (fx fy fz wx wy wz : Nat) (far : Nat) (hfar : far < 2 ^ FloatKind.f32.format.width) (w : World) : Calls Try.prog 9 #[.agg #[.float .f32 fx, .float .f32 fy, .float .f32 fz, .float .f32 wx, .float .f32 wy, .float .f32 wz], .float .f32 far] w fun e w' => e = .returned (.bool true) ∧ Below w.heap.size w w' := by
  have h0 := Lib.hid (RayAt.box w fx fy fz wx wy wz 34)
  go_enter Try.func9, Try.ntmps9
  go_wp2_with fail
  refine (toRay_any _ _ _ _ _ _ _).mono ?_
  rintro e w1 ⟨rfl, hb1⟩
  have h1 := Lib.hid (h0.out.below hb1)
  go_wp2_with fail
  refine (spec_PlaceOn_any _ _ _ _ _ _ _ _).mono ?_
  rintro e w2 ⟨r, s, t, hr, hs, ht, rfl, hb2⟩
  have v2 := Lib.hid (VecIn.box w2 r s t 30)
  have h2 := Lib.hid ((h1.out.below hb2).below (bl_alloc (bl_refl _) (.cells #[.float .f32 r, .float .f32 s, .float .f32 t] 30)))
  obtain ⟨hg, c0, c1, c2, c3, c4, c5⟩ := h2.out
  go_wp2_with fail
  refine (toRay_any _ _ _ _ _ _ _).mono ?_
  rintro e w3 ⟨rfl, hb3⟩
  clear hg c0 c1 c2 c3 c4 c5
  go_wp2_with fail
  refine (PlaceOn_any _ _ _ _ _ _ _ _).mono ?_
  rintro e w4 ⟨r', s', t', hr', hs', ht', rfl, hb4⟩
  obtain ⟨hg, c0, c1, c2⟩ := (v2.out.below hb3).below hb4
  have n1 : ¬ w4.heap.size = w2.heap.size := by omega
  have n2 : ¬ w2.heap.size = w4.heap.size := by omega
  go_wp2_with fail
  refine (eqVector_true _ _ _ _ _ _ (hr'.same hr) (hs'.same hs) (ht'.same ht) _).mono ?_
  rintro e w5 ⟨rfl, hb5⟩
  go_wp2_with fail
  go_ret
  exact ⟨rfl, bl_call (bl_alloc (bl_call (bl_call (bl_alloc (bl_call (bl_call (bl_alloc (bl_refl w) _) hb1) hb2) _) hb3) hb4) _) hb5⟩

theorem own : ownKnob Try.prog.godebug = none := by kernel_rfl
theorem laidOut : laidOutB Try.prog = true := by kernel_rfl

set_option maxRecDepth 100000 in
theorem lifted (os : Os) (started : os.Started) (H : Type) (enc : TypeId × Value → H) :
    ReturnsInHanded {} Try.checked os 9 .any (Rows.fnExactPlaceOnSpec.pre6 enc Try.prog Try.f9 Rows.fnExactPlaceOnRow.domain false) (Rows.fnExactPlaceOnSpec.post enc Try.prog Try.f9 false true false false) := by
  refine returnsInHanded_of_change (C := Try.checked) own started (by kernel_rfl) Try.func9
    (ChangeSpec.witness6 (enc := enc) (C := Try.checked) false ⟨#[], #[.agg #[.float .f32 0, .float .f32 0, .float .f32 0, .float .f32 0, .float .f32 0, .float .f32 0], .float .f32 0], []⟩ 8 (by kernel_rfl) (by kernel_rfl) (by kernel_rfl) (by kernel_rfl)) ?_
  intro W base args ds gs before hval0 hW hcnd _
  have hval : ∀ (j : Nat) t v, Try.f9.params[j]? = some t → args[j]? = some v → Value.okWide Try.prog W .any base t v := hval0
  have hW' := hW
  obtain ⟨p, q, hA0, hV, rfl, hfz, hnd⟩ := hW
  have hA : DataW.TrodAll enc Try.prog W 0 (fun _ => true) true Try.f9.params.toList args.toList ds p := hA0
  rw [Try.params9] at hA hval
  obtain ⟨v0, vs0, d0, ds0, p0, q0, hargs, rfl, rfl, h0, r0⟩ := trodAll_cons hA
  obtain ⟨v1, vs1, d1, ds1, p1, q1, rfl, rfl, rfl, h1, r1⟩ := trodAll_cons r0
  obtain ⟨rfl, rfl, rfl⟩ := trodAll_nil r1
  obtain rfl : args = #[v0, v1] := by cases args; simp_all
  obtain ⟨rfl, rfl⟩ := trodVars_none hV
  have k0 := h0
  have lt0 : ∀ x ∈ p0, x.block < W.heap.size := by obtain ⟨m, hm⟩ := k0; exact DataW.trod_lt m _ _ _ hm
  have k1 := h1
  have lt1 : ∀ x ∈ p1, x.block < W.heap.size := by obtain ⟨m, hm⟩ := k1; exact DataW.trod_lt m _ _ _ hm
  obtain ⟨fx0, fy0, fz0, wx0, wy0, wz0, rfl⟩ := open_ray Try.underlying34 (by kernel_rfl) rfl rfl (by kernel_rfl) (by kernel_rfl) Try.underlying28 Try.underlying28 (by kernel_rfl) (by kernel_rfl) Try.underlying22 Try.underlying22 Try.underlying22 Try.underlying22 Try.underlying22 Try.underlying22 (hval 0 34 v0 rfl rfl) h0
  obtain ⟨a1, rfl, rfl, rfl, w1⟩ := open_float Try.underlying22 (hval 1 22 v1 rfl rfl) h1
  clear hA0 hval0
  refine (walk fx0 fy0 fz0 wx0 wy0 wz0 a1 (Fl.lt_of_wf w1) W).mono fun e W' ⟨he, bel⟩ => ?_
  subst he
  exact ⟨_, rfl, _, _, _, [], _, [], hW', trodAll_mk1 (shut_bool Try.underlying4 _), (trodAll_cons_mk (Below.trod laidOut (by kernel_rfl) (of_decide_eq_true (by kernel_rfl)) k0 bel lt0) (trodAll_cons_mk (Below.trod laidOut (by kernel_rfl) (of_decide_eq_true (by kernel_rfl)) k1 bel lt1) trodAll_mk0)), rfl, bel.frame _, fun h => by cases h⟩

theorem over : Rows.fnExactPlaceOnRow.holds Try.pinned (OpenSpec.ofChange Rows.fnExactPlaceOnSpec) :=
  OpenClaim.holds_of_wide 9 Try.f9 rfl rfl rfl rfl rfl rfl rfl ⟨rfl, rfl, rfl, rfl, rfl⟩ rfl rfl rfl rfl rfl (by kernel_rfl) Try.func9 (by kernel_rfl)
    (of_decide_eq_true (by kernel_rfl)) (by unfold Func.isWrapper; first | (rw [if_pos (by decide +kernel)]; kernel_rfl) | (rw [if_neg (by decide +kernel)]; exact ⟨rfl, rfl⟩))
    (fun os started H enc _ => lifted os started H enc)

theorem proved : Rows.FnExactPlaceOnSaid := over
#print axioms proved
end Go.Proofs.Ytepanenjhfmoiaa.lawPlaceOn
