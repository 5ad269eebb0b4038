/- The law FnExactInnerOf returns true for every two vectors. No conditions. -/
import Derived.Test.YtnjbmcjneigcpaaEqv
namespace Go.Proofs.Ytnjbmcjneigcpaa.lawInnerOf
open Go.ChangeShapes Go.WideShapes Go.ChangeAt Go.RowKit
open Go.Fl
set_option linter.unusedVariables false

theorem walk (ax ay az : Nat) (hax : ax < 4294967296) (hay : ay < 4294967296) (haz : az < 4294967296) (bx b_y bz : Nat) (hbx : bx < 4294967296) (hby : b_y < 4294967296) (hbz : bz < 4294967296) (w : World) : Calls Try.prog 9 #[.agg #[.float .f32 ax, .float .f32 ay, .float .f32 az], .agg #[.float .f32 bx, .float .f32 b_y, .float .f32 bz]] w fun e w' => e = .returned (.bool true) ∧ Below w.heap.size w w' := by
  go_enter Try.func9, Try.ntmps9
  go_wp2
  go_region_held3 (fun w' => w.heap.size < w'.heap.size ∧ w.heap.size + 1 < w'.heap.size ∧ w'.cell? ⟨w.heap.size, 0, none⟩ = some (.float .f32 ax) ∧ w'.cell? ⟨w.heap.size, 1, none⟩ = some (.float .f32 ay) ∧ w'.cell? ⟨w.heap.size, 2, none⟩ = some (.float .f32 az) ∧ w'.cell? ⟨w.heap.size + 1, 0, none⟩ = some (.float .f32 bx) ∧ w'.cell? ⟨w.heap.size + 1, 1, none⟩ = some (.float .f32 b_y) ∧ w'.cell? ⟨w.heap.size + 1, 2, none⟩ = some (.float .f32 bz)) (first | exact two_keep (by assumption) (by assumption) | (simp; done) | (simp [lt2]; done) | (simp [*]; done)) (first | (go_at_call 27; refine (toVector_any _ _ _ _).mono ?_; rintro e w1 ⟨rfl, hb⟩) | (go_at_call 26; refine (spec_InnerOf_any _ _ _ _ _ _ _ ).mono ?_; rintro e w1 ⟨r, hr, rfl, hb⟩))
  go_wp2
  go_region_held3 (fun w' => w.heap.size < w'.heap.size ∧ w.heap.size + 1 < w'.heap.size ∧ w'.cell? ⟨w.heap.size, 0, none⟩ = some (.float .f32 ax) ∧ w'.cell? ⟨w.heap.size, 1, none⟩ = some (.float .f32 ay) ∧ w'.cell? ⟨w.heap.size, 2, none⟩ = some (.float .f32 az) ∧ w'.cell? ⟨w.heap.size + 1, 0, none⟩ = some (.float .f32 bx) ∧ w'.cell? ⟨w.heap.size + 1, 1, none⟩ = some (.float .f32 b_y) ∧ w'.cell? ⟨w.heap.size + 1, 2, none⟩ = some (.float .f32 bz)) (first | exact two_keep (by assumption) (by assumption) | (simp; done) | (simp [lt2]; done) | (simp [*]; done)) (first | (go_at_call 27; refine (toVector_any _ _ _ _).mono ?_; rintro e w1 ⟨rfl, hb⟩) | (go_at_call 28; refine (InnerOf_any _ _ _ _ _ _ _ ).mono ?_; rintro e w1 ⟨r, hr, rfl, hb⟩))
  go_wp2_with (first | ((with_reducible refine wpList_widen ?_); refine ⟨_, ⟨rfl, rfl, by rw [Try.underlying23]; rfl, Try.underlying25⟩, ?_⟩; intro q n hq) | (go_at_call 19; refine (sameFloat_true _ _ (wide_eq (by assumption) (by assumption) (Is.same (by assumption) (by assumption))) _).mono ?_; rintro e w' ⟨rfl, n, rfl⟩))
  go_ret
  exact ⟨rfl, (by repeat (first | with_reducible exact bl_refl _ | with_reducible assumption | with_reducible refine bl_set ?_ (by simp <;> omega) _ | with_reducible refine bl_drewN ?_ _ | with_reducible refine bl_drew ?_ | with_reducible refine bl_alloc ?_ _ | with_reducible refine bl_call ?_ (by assumption)))⟩

theorem own : ownKnob Try.prog.godebug = none := by kernel_rfl
theorem laidOut : laidOutB Try.prog = true := by kernel_rfl

set_option maxRecDepth 100000 in
theorem lifted (os : Os) (started : os.Started) (H : Type) (enc : TypeId × Value → H) :
    ReturnsInHanded {} Try.checked os 9 .any (Rows.fnExactInnerOfSpec.pre6 enc Try.prog Try.f9 Rows.fnExactInnerOfRow.domain false) (Rows.fnExactInnerOfSpec.post enc Try.prog Try.f9 false true false false) := by
  refine returnsInHanded_of_change (C := Try.checked) own started (by kernel_rfl) Try.func9
    (ChangeSpec.witness6 (enc := enc) (C := Try.checked) false ⟨#[], #[.agg #[.float .f32 0, .float .f32 0, .float .f32 0], .agg #[.float .f32 0, .float .f32 0, .float .f32 0]], []⟩ 8 (by kernel_rfl) (by kernel_rfl) (by kernel_rfl) (by kernel_rfl)) ?_
  intro W base args ds gs before hval0 hW hcnd _
  have hval : ∀ (j : Nat) t v, Try.f9.params[j]? = some t → args[j]? = some v → Value.okWide Try.prog W .any base t v := hval0
  have hW' := hW
  obtain ⟨p, q, hA0, hV, rfl, hfz, hnd⟩ := hW
  have hA : DataW.TrodAll enc Try.prog W 0 (fun _ => true) true Try.f9.params.toList args.toList ds p := hA0
  rw [Try.params9] at hA hval
  obtain ⟨v0, vs0, d0, ds0, p0, q0, hargs, rfl, rfl, h0, r0⟩ := trodAll_cons hA
  obtain ⟨v1, vs1, d1, ds1, p1, q1, rfl, rfl, rfl, h1, r1⟩ := trodAll_cons r0
  obtain ⟨rfl, rfl, rfl⟩ := trodAll_nil r1
  obtain rfl : args = #[v0, v1] := by cases args; simp_all
  obtain ⟨rfl, rfl⟩ := trodVars_none hV
  have k0 := h0
  have lt0 : ∀ x ∈ p0, x.block < W.heap.size := by obtain ⟨m, hm⟩ := k0; exact DataW.trod_lt m _ _ _ hm
  have k1 := h1
  have lt1 : ∀ x ∈ p1, x.block < W.heap.size := by obtain ⟨m, hm⟩ := k1; exact DataW.trod_lt m _ _ _ hm
  obtain ⟨x0, y0, z0, rfl, wx0, wy0, wz0⟩ := Fl.open_vec Try.underlying32 (by kernel_rfl) (by kernel_rfl) Try.underlying23 Try.underlying23 Try.underlying23 (hval 0 32 v0 rfl rfl) h0
  obtain ⟨x1, y1, z1, rfl, wx1, wy1, wz1⟩ := Fl.open_vec Try.underlying32 (by kernel_rfl) (by kernel_rfl) Try.underlying23 Try.underlying23 Try.underlying23 (hval 1 32 v1 rfl rfl) h1
  clear hA0 hval0
  refine (walk x0 y0 z0 wx0 wy0 wz0 x1 y1 z1 wx1 wy1 wz1 W).mono fun e W' ⟨he, bel⟩ => ?_
  subst he
  exact ⟨_, rfl, _, _, _, [], _, [], hW', trodAll_mk1 (shut_bool Try.underlying4 _), (trodAll_cons_mk (Below.trod laidOut (by kernel_rfl) (of_decide_eq_true (by kernel_rfl)) k0 bel lt0) (trodAll_cons_mk (Below.trod laidOut (by kernel_rfl) (of_decide_eq_true (by kernel_rfl)) k1 bel lt1) trodAll_mk0)), rfl, bel.frame _, fun h => by cases h⟩

theorem over : Rows.fnExactInnerOfRow.holds Try.pinned (OpenSpec.ofChange Rows.fnExactInnerOfSpec) :=
  OpenClaim.holds_of_wide 9 Try.f9 rfl rfl rfl rfl rfl rfl rfl ⟨rfl, rfl, rfl, rfl, rfl⟩ rfl rfl rfl rfl rfl (by kernel_rfl) Try.func9 (by kernel_rfl)
    (of_decide_eq_true (by kernel_rfl)) (by unfold Func.isWrapper; first | (rw [if_pos (by decide +kernel)]; kernel_rfl) | (rw [if_neg (by decide +kernel)]; exact ⟨rfl, rfl⟩))
    (fun os started H enc _ => lifted os started H enc)

theorem proved : Rows.FnExactInnerOfSaid := over
#print axioms proved
end Go.Proofs.Ytnjbmcjneigcpaa.lawInnerOf
