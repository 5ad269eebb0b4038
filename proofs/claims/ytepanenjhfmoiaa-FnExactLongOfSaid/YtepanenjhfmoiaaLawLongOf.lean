/- The law FnExactLongOf returns true for every vector. No conditions. -/
import Derived.Test.YtepanenjhfmoiaaLong
namespace Go.Proofs.Ytepanenjhfmoiaa.lawLongOf
open Go.ChangeShapes Go.WideShapes Go.ChangeAt Go.RowKit
open Go.Fl
set_option linter.unusedVariables false

theorem walk (x y z : Nat) (hx : x < 4294967296) (hy : y < 4294967296) (hz : z < 4294967296) (w : World) : Calls Try.prog 4 #[.agg #[.float .f32 x, .float .f32 y, .float .f32 z]] w fun e w' => e = .returned (.bool true) ∧ Below w.heap.size w w' := by
  go_enter Try.func4, Try.ntmps4
  go_wp2_with (first | (go_at_call 14; refine (toVector_any _ _ _ _).mono ?_; rintro e w1 ⟨rfl, hb⟩; obtain ⟨hc, hf⟩ := bcell hb; have hz := hb.size; (try simp at hz); (first | have hz' := Nat.lt_of_succ_le hz | have hz' := Nat.lt_of_lt_of_le (by assumption) hz | skip)) | (go_at_call 13; refine (spec_LongOf_any _ _ _ _).mono ?_; rintro e w1 ⟨r, hr, rfl, hb⟩; obtain ⟨hc, hf⟩ := bcell hb; have hz := hb.size; (try simp at hz); (first | have hz' := Nat.lt_of_succ_le hz | have hz' := Nat.lt_of_lt_of_le (by assumption) hz | skip)) | (go_at_call 15; refine (LongOf_any _ _ _ _).mono ?_; rintro e w1 ⟨r', hr', rfl, hb⟩) | ((with_reducible refine wpList_widen ?_); refine ⟨_, ⟨rfl, rfl, by rw [Try.underlying22]; rfl, Try.underlying25⟩, ?_⟩; intro q n hq) | (go_at_call 12; refine (sameFloat_true _ _ (wide_eq (by assumption) (by assumption) (Is.same (by assumption) (by assumption))) _).mono ?_; rintro e w' ⟨rfl, n, rfl⟩))
  go_ret
  exact ⟨rfl, (by repeat (first | with_reducible exact bl_refl _ | with_reducible assumption | with_reducible refine bl_set ?_ (by simp <;> omega) _ | with_reducible refine bl_drewN ?_ _ | with_reducible refine bl_drew ?_ | with_reducible refine bl_alloc ?_ _ | with_reducible refine bl_call ?_ (by assumption)))⟩

theorem own : ownKnob Try.prog.godebug = none := by kernel_rfl
theorem laidOut : laidOutB Try.prog = true := by kernel_rfl

set_option maxRecDepth 100000 in
theorem lifted (os : Os) (started : os.Started) (H : Type) (enc : TypeId × Value → H) :
    ReturnsInHanded {} Try.checked os 4 .any (Rows.fnExactLongOfSpec.pre6 enc Try.prog Try.f4 Rows.fnExactLongOfRow.domain false) (Rows.fnExactLongOfSpec.post enc Try.prog Try.f4 false true false false) := by
  refine returnsInHanded_of_change (C := Try.checked) own started (by kernel_rfl) Try.func4
    (ChangeSpec.witness6 (enc := enc) (C := Try.checked) false ⟨#[], #[.agg #[.float .f32 0, .float .f32 0, .float .f32 0]], []⟩ 8 (by kernel_rfl) (by kernel_rfl) (by kernel_rfl) (by kernel_rfl)) ?_
  intro W base args ds gs before hval0 hW hcnd _
  have hval : ∀ (j : Nat) t v, Try.f4.params[j]? = some t → args[j]? = some v → Value.okWide Try.prog W .any base t v := hval0
  have hW' := hW
  obtain ⟨p, q, hA0, hV, rfl, hfz, hnd⟩ := hW
  have hA : DataW.TrodAll enc Try.prog W 0 (fun _ => true) true Try.f4.params.toList args.toList ds p := hA0
  rw [Try.params4] at hA hval
  obtain ⟨v0, vs0, d0, ds0, p0, q0, hargs, rfl, rfl, h0, r0⟩ := trodAll_cons hA
  obtain ⟨rfl, rfl, rfl⟩ := trodAll_nil r0
  obtain rfl : args = #[v0] := by cases args; simp_all
  obtain ⟨rfl, rfl⟩ := trodVars_none hV
  have k0 := h0
  have lt0 : ∀ x ∈ p0, x.block < W.heap.size := by obtain ⟨m, hm⟩ := k0; exact DataW.trod_lt m _ _ _ hm
  obtain ⟨x0, y0, z0, rfl, wx0, wy0, wz0⟩ := Fl.open_vec Try.underlying28 (by kernel_rfl) (by kernel_rfl) Try.underlying22 Try.underlying22 Try.underlying22 (hval 0 28 v0 rfl rfl) h0
  clear hA0 hval0
  refine (walk x0 y0 z0 wx0 wy0 wz0 W).mono fun e W' ⟨he, bel⟩ => ?_
  subst he
  exact ⟨_, rfl, _, _, _, [], _, [], hW', trodAll_mk1 (shut_bool Try.underlying4 _), (trodAll_cons_mk (Below.trod laidOut (by kernel_rfl) (of_decide_eq_true (by kernel_rfl)) k0 bel lt0) trodAll_mk0), rfl, bel.frame _, fun h => by cases h⟩

theorem over : Rows.fnExactLongOfRow.holds Try.pinned (OpenSpec.ofChange Rows.fnExactLongOfSpec) :=
  OpenClaim.holds_of_wide 4 Try.f4 rfl rfl rfl rfl rfl rfl rfl ⟨rfl, rfl, rfl, rfl, rfl⟩ rfl rfl rfl rfl rfl (by kernel_rfl) Try.func4 (by kernel_rfl)
    (of_decide_eq_true (by kernel_rfl)) (by unfold Func.isWrapper; first | (rw [if_pos (by decide +kernel)]; kernel_rfl) | (rw [if_neg (by decide +kernel)]; exact ⟨rfl, rfl⟩))
    (fun os started H enc _ => lifted os started H enc)

theorem proved : Rows.FnExactLongOfSaid := over
#print axioms proved
end Go.Proofs.Ytepanenjhfmoiaa.lawLongOf
