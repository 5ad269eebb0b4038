/- The law FnExactUnitOf returns true for every vector. No conditions. -/
import Derived.Test.YtepanenjhfmoiaaUnit
namespace Go.Proofs.Ytepanenjhfmoiaa.lawUnitOf
open Go.ChangeShapes Go.WideShapes Go.ChangeAt Go.RowKit
open Go.Fl
set_option linter.unusedVariables false

theorem walk (ax ay az : Nat) (hax : ax < 4294967296) (hay : ay < 4294967296) (haz : az < 4294967296) (w : World) : Calls Try.prog 7 #[.agg #[.float .f32 ax, .float .f32 ay, .float .f32 az]] w fun e w' => e = .returned (.bool true) ∧ Below w.heap.size w w' := by
  go_enter Try.func7, Try.ntmps7
  go_wp2_with fail
  refine (toVector_any _ _ _ _).mono ?_
  rintro e w1 ⟨rfl, hb1⟩
  have z1 := hb1.size
  simp at z1
  have e1 := bl_call (bl_alloc (bl_refl w) _) hb1
  have a0 : w1.cell? ⟨w.heap.size, 0, none⟩ = some (.float .f32 ax) := (hb1.cell (p := ⟨w.heap.size, 0, none⟩) (by simp)).trans (by simp)
  have a1 : w1.cell? ⟨w.heap.size, 1, none⟩ = some (.float .f32 ay) := (hb1.cell (p := ⟨w.heap.size, 1, none⟩) (by simp)).trans (by simp)
  have a2 : w1.cell? ⟨w.heap.size, 2, none⟩ = some (.float .f32 az) := (hb1.cell (p := ⟨w.heap.size, 2, none⟩) (by simp)).trans (by simp)
  clear hb1
  go_wp2_with fail
  refine (spec_UnitOf_any _ _ _ _).mono ?_
  rintro e w2 ⟨r, s', t, hr, hs', ht, rfl, hb2⟩
  have z2 := hb2.size
  have e2 := bl_call e1 hb2
  have b0 : w2.cell? ⟨w.heap.size, 0, none⟩ = some (.float .f32 ax) := (hb2.cell (p := ⟨w.heap.size, 0, none⟩) (by show w.heap.size < _; omega)).trans a0
  have b1 : w2.cell? ⟨w.heap.size, 1, none⟩ = some (.float .f32 ay) := (hb2.cell (p := ⟨w.heap.size, 1, none⟩) (by show w.heap.size < _; omega)).trans a1
  have b2 : w2.cell? ⟨w.heap.size, 2, none⟩ = some (.float .f32 az) := (hb2.cell (p := ⟨w.heap.size, 2, none⟩) (by show w.heap.size < _; omega)).trans a2
  clear hb2 a0 a1 a2 e1
  have y2 : w.heap.size < w2.heap.size := by omega
  have n2 : ¬ w.heap.size = w2.heap.size := by omega
  have n2' : ¬ w2.heap.size = w.heap.size := by omega
  go_wp2_with fail
  refine (toVector_any _ _ _ _).mono ?_
  rintro e w3 ⟨rfl, hb3⟩
  have z3 := hb3.size
  simp at z3
  have e3 := bl_call (bl_alloc e2 _) hb3
  have g0 : w3.cell? ⟨w2.heap.size, 0, none⟩ = some (.float .f32 r) := (hb3.cell (p := ⟨w2.heap.size, 0, none⟩) (by simp)).trans (by simp)
  have g1 : w3.cell? ⟨w2.heap.size, 1, none⟩ = some (.float .f32 s') := (hb3.cell (p := ⟨w2.heap.size, 1, none⟩) (by simp)).trans (by simp)
  have g2 : w3.cell? ⟨w2.heap.size, 2, none⟩ = some (.float .f32 t) := (hb3.cell (p := ⟨w2.heap.size, 2, none⟩) (by simp)).trans (by simp)
  clear hb3
  go_wp2_with fail
  refine (UnitOf_any _ _ _ _).mono ?_
  rintro e w4 ⟨r', s'', t', hr', hs'', ht', rfl, hb4⟩
  have z4 := hb4.size
  have e4 := bl_call e3 hb4
  have f0 : w4.cell? ⟨w2.heap.size, 0, none⟩ = some (.float .f32 r) := (hb4.cell (p := ⟨w2.heap.size, 0, none⟩) (by show w2.heap.size < _; omega)).trans g0
  have f1 : w4.cell? ⟨w2.heap.size, 1, none⟩ = some (.float .f32 s') := (hb4.cell (p := ⟨w2.heap.size, 1, none⟩) (by show w2.heap.size < _; omega)).trans g1
  have f2 : w4.cell? ⟨w2.heap.size, 2, none⟩ = some (.float .f32 t) := (hb4.cell (p := ⟨w2.heap.size, 2, none⟩) (by show w2.heap.size < _; omega)).trans g2
  have y4 : w2.heap.size < w4.heap.size := by omega
  have n4 : ¬ w2.heap.size = w4.heap.size := by omega
  have n4' : ¬ w4.heap.size = w2.heap.size := by omega
  clear hb4 g0 g1 g2
  go_wp2_with fail
  refine (eqVector_true _ _ _ _ _ _ (hr'.same hr) (hs''.same hs') (ht'.same ht) _).mono ?_
  rintro e w5 ⟨rfl, hb5⟩
  go_wp2_with fail
  go_ret
  exact ⟨rfl, bl_call (bl_alloc e4 _) hb5⟩

theorem own : ownKnob Try.prog.godebug = none := by kernel_rfl
theorem laidOut : laidOutB Try.prog = true := by kernel_rfl

set_option maxRecDepth 100000 in
theorem lifted (os : Os) (started : os.Started) (H : Type) (enc : TypeId × Value → H) :
    ReturnsInHanded {} Try.checked os 7 .any (Rows.fnExactUnitOfSpec.pre6 enc Try.prog Try.f7 Rows.fnExactUnitOfRow.domain false) (Rows.fnExactUnitOfSpec.post enc Try.prog Try.f7 false true false false) := by
  refine returnsInHanded_of_change (C := Try.checked) own started (by kernel_rfl) Try.func7
    (ChangeSpec.witness6 (enc := enc) (C := Try.checked) false ⟨#[], #[.agg #[.float .f32 0, .float .f32 0, .float .f32 0]], []⟩ 8 (by kernel_rfl) (by kernel_rfl) (by kernel_rfl) (by kernel_rfl)) ?_
  intro W base args ds gs before hval0 hW hcnd _
  have hval : ∀ (j : Nat) t v, Try.f7.params[j]? = some t → args[j]? = some v → Value.okWide Try.prog W .any base t v := hval0
  have hW' := hW
  obtain ⟨p, q, hA0, hV, rfl, hfz, hnd⟩ := hW
  have hA : DataW.TrodAll enc Try.prog W 0 (fun _ => true) true Try.f7.params.toList args.toList ds p := hA0
  rw [Try.params7] at hA hval
  obtain ⟨v0, vs0, d0, ds0, p0, q0, hargs, rfl, rfl, h0, r0⟩ := trodAll_cons hA
  obtain ⟨rfl, rfl, rfl⟩ := trodAll_nil r0
  obtain rfl : args = #[v0] := by cases args; simp_all
  obtain ⟨rfl, rfl⟩ := trodVars_none hV
  have k0 := h0
  have lt0 : ∀ x ∈ p0, x.block < W.heap.size := by obtain ⟨m, hm⟩ := k0; exact DataW.trod_lt m _ _ _ hm
  obtain ⟨x0, y0, z0, rfl, wx0, wy0, wz0⟩ := Fl.open_vec Try.underlying28 (by kernel_rfl) (by kernel_rfl) Try.underlying22 Try.underlying22 Try.underlying22 (hval 0 28 v0 rfl rfl) h0
  clear hA0 hval0
  refine (walk x0 y0 z0 wx0 wy0 wz0 W).mono fun e W' ⟨he, bel⟩ => ?_
  subst he
  exact ⟨_, rfl, _, _, _, [], _, [], hW', trodAll_mk1 (shut_bool Try.underlying4 _), (trodAll_cons_mk (Below.trod laidOut (by kernel_rfl) (of_decide_eq_true (by kernel_rfl)) k0 bel lt0) trodAll_mk0), rfl, bel.frame _, fun h => by cases h⟩

theorem over : Rows.fnExactUnitOfRow.holds Try.pinned (OpenSpec.ofChange Rows.fnExactUnitOfSpec) :=
  OpenClaim.holds_of_wide 7 Try.f7 rfl rfl rfl rfl rfl rfl rfl ⟨rfl, rfl, rfl, rfl, rfl⟩ rfl rfl rfl rfl rfl (by kernel_rfl) Try.func7 (by kernel_rfl)
    (of_decide_eq_true (by kernel_rfl)) (by unfold Func.isWrapper; first | (rw [if_pos (by decide +kernel)]; kernel_rfl) | (rw [if_neg (by decide +kernel)]; exact ⟨rfl, rfl⟩))
    (fun os started H enc _ => lifted os started H enc)

theorem proved : Rows.FnExactUnitOfSaid := over
#print axioms proved
end Go.Proofs.Ytepanenjhfmoiaa.lawUnitOf
