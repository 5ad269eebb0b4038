/- The law FnExactSumPairs returns true for every list of numbers. No conditions. -/
import Derived.Test.YtddfgopgcglldaaPairs
import Derived.Test.YtddfgopgcglldaaOpen
namespace Go.Proofs.Ytddfgopgcglldaa.lawSumPairs
open Go.ChangeShapes Go.WideShapes Go.ChangeAt Go.RowKit
open Go.Fl
set_option linter.unusedVariables false

set_option maxHeartbeats 1000000 in
theorem walk (v : Value) (xs : List Nat) (w : World) (hin : FIn w v xs) (hbd : ∀ x ∈ xs, x < 4294967296) : Calls Try.prog 12 #[v] w fun e w' => e = .returned (.bool true) ∧ Below w.heap.size w w' := by
  have hin' := hin
  obtain ⟨a, cap, rfl, _⟩ := hin'
  by_cases hn : xs.length ≤ 1048576
  · have hd : decide ((1048576 : Int) < xs.length) = false := by simp; omega
    go_enter Try.func12, Try.ntmps12
    go_wp2_with fail
    refine (toFloat32S_any _ _ _ hin hn).mono ?_
    rintro e w1 ⟨g1, rfl, hg1, ho1, hb1⟩
    have h1 := FIn_of_row rfl ho1
    go_wp2_with fail
    refine (spec_SumPairs_any _ _ _ _ xs _ rfl (Nat.le_refl _) hn (row_cells rfl ho1) hbd).mono ?_
    rintro e w2 ⟨he, n2, rfl⟩
    have e2 := bl_drewN hb1 n2
    cases ho : pairsO xs with
    | some o =>
      rw [ho] at he
      obtain ⟨r, hr, rfl⟩ := he
      go_wp2_with fail
      refine (toFloat32S_any _ _ _ (hin.keep e2) hn).mono ?_
      rintro e w3 ⟨g3, rfl, hg3, ho3, hb3⟩
      have h3 := FIn_of_row rfl ho3
      have e3 := bl_call e2 hb3
      go_wp2_with fail
      refine (SumPairs_any _ _ _ _ xs _ rfl (Nat.le_refl _) hn (row_cells rfl ho3) hbd).mono ?_
      rintro e w4 ⟨he, n4, rfl⟩
      rw [ho] at he
      obtain ⟨r', hr', rfl⟩ := he
      go_wp2_with (first | ((with_reducible refine wpList_widen ?_); refine ⟨_, ⟨rfl, rfl, by rw [Try.underlying22]; rfl, Try.underlying31⟩, ?_⟩; intro q n hq) | (go_at_call 20; refine (sameFloat_true _ _ (wide_eq (by assumption) (by assumption) (Is.same (by assumption) (by assumption))) _).mono ?_; rintro e w' ⟨rfl, n, rfl⟩) | (go_at_call 30; refine (toFloat32S_any _ _ _ (hin.keep (bl_drewN e3 _)) hn).mono ?_; rintro e w5 ⟨g5, rfl, hg5, ho5, hb5⟩; have h5 := FIn_of_row rfl ho5) | (go_at_call 32; refine (eqFloat32S_true _ _ _ _ ((h3.drewN _).keep hb5) h5 hn).mono ?_; rintro e w' ⟨rfl, n, rfl⟩))
      go_ret
      exact ⟨rfl, bl_drewN (bl_call (bl_drewN e3 _) hb5) _⟩
    | none =>
      rw [ho] at he
      obtain rfl := he
      go_wp2_with fail
      refine (toFloat32S_any _ _ _ (hin.keep e2) hn).mono ?_
      rintro e w3 ⟨g3, rfl, hg3, ho3, hb3⟩
      have h3 := FIn_of_row rfl ho3
      have e3 := bl_call e2 hb3
      go_wp2_with fail
      refine (SumPairs_any _ _ _ _ xs _ rfl (Nat.le_refl _) hn (row_cells rfl ho3) hbd).mono ?_
      rintro e w4 ⟨he, n4, rfl⟩
      rw [ho] at he
      obtain rfl := he
      go_wp2_with (first | ((with_reducible refine wpList_widen ?_); refine ⟨_, ⟨rfl, rfl, by rw [Try.underlying22]; rfl, Try.underlying31⟩, ?_⟩; intro q n hq) | (go_at_call 20; refine (sameFloat_true _ _ (wide_eq (by assumption) (by assumption) (rfl)) _).mono ?_; rintro e w' ⟨rfl, n, rfl⟩) | (go_at_call 30; refine (toFloat32S_any _ _ _ (hin.keep (bl_drewN e3 _)) hn).mono ?_; rintro e w5 ⟨g5, rfl, hg5, ho5, hb5⟩; have h5 := FIn_of_row rfl ho5) | (go_at_call 32; refine (eqFloat32S_true _ _ _ _ ((h3.drewN _).keep hb5) h5 hn).mono ?_; rintro e w' ⟨rfl, n, rfl⟩))
      go_ret
      exact ⟨rfl, bl_drewN (bl_call (bl_drewN e3 _) hb5) _⟩
  · have hd : decide ((1048576 : Int) < xs.length) = true := by simp; omega
    go_enter Try.func12, Try.ntmps12
    go_wp2_with fail
    go_ret
    exact ⟨rfl, bl_refl _⟩

theorem own : ownKnob Try.prog.godebug = none := by kernel_rfl
theorem laidOut : laidOutB Try.prog = true := by kernel_rfl

set_option maxRecDepth 100000 in
theorem lifted (os : Os) (started : os.Started) (H : Type) (enc : TypeId × Value → H) :
    ReturnsInHanded {} Try.checked os 12 .any (Rows.fnExactSumPairsSpec.pre6 enc Try.prog Try.f12 Rows.fnExactSumPairsRow.domain false) (Rows.fnExactSumPairsSpec.post enc Try.prog Try.f12 false true false false) := by
  refine returnsInHanded_of_change (C := Try.checked) own started (by kernel_rfl) Try.func12
    (ChangeSpec.witness6 (enc := enc) (C := Try.checked) false ⟨#[], #[.slice none 0 0], []⟩ 8 (by kernel_rfl) (by kernel_rfl) (by kernel_rfl) (by kernel_rfl)) ?_
  intro W base args ds gs before hval0 hW hcnd _
  have hval : ∀ (j : Nat) t v, Try.f12.params[j]? = some t → args[j]? = some v → Value.okWide Try.prog W .any base t v := hval0
  have hW' := hW
  obtain ⟨p, q, hA0, hV, rfl, hfz, hnd⟩ := hW
  have hA : DataW.TrodAll enc Try.prog W 0 (fun _ => true) true Try.f12.params.toList args.toList ds p := hA0
  rw [Try.params12] at hA hval
  obtain ⟨v0, vs0, d0, ds0, p0, q0, hargs, rfl, rfl, h0, r0⟩ := trodAll_cons hA
  obtain ⟨rfl, rfl, rfl⟩ := trodAll_nil r0
  obtain rfl : args = #[v0] := by cases args; simp_all
  obtain ⟨rfl, rfl⟩ := trodVars_none hV
  have k0 := h0
  have lt0 : ∀ x ∈ p0, x.block < W.heap.size := by obtain ⟨m, hm⟩ := k0; exact DataW.trod_lt m _ _ _ hm
  obtain ⟨xs0, w0, wb0⟩ := open_f32sb Try.underlying40 Try.underlying22 (by kernel_rfl) (hval 0 40 v0 rfl rfl) h0
  clear hA0 hval0
  refine (walk v0 xs0 W w0 wb0).mono fun e W' ⟨he, bel⟩ => ?_
  subst he
  exact ⟨_, rfl, _, _, _, [], _, [], hW', trodAll_mk1 (shut_bool Try.underlying4 _), (trodAll_cons_mk (Below.trod laidOut (by kernel_rfl) (of_decide_eq_true (by kernel_rfl)) k0 bel lt0) trodAll_mk0), rfl, bel.frame _, fun h => by cases h⟩

theorem over : Rows.fnExactSumPairsRow.holds Try.pinned (OpenSpec.ofChange Rows.fnExactSumPairsSpec) :=
  OpenClaim.holds_of_wide 12 Try.f12 rfl rfl rfl rfl rfl rfl rfl ⟨rfl, rfl, rfl, rfl, rfl⟩ rfl rfl rfl rfl rfl (by kernel_rfl) Try.func12 (by kernel_rfl)
    (of_decide_eq_true (by kernel_rfl)) (by unfold Func.isWrapper; first | (rw [if_pos (by decide +kernel)]; kernel_rfl) | (rw [if_neg (by decide +kernel)]; exact ⟨rfl, rfl⟩))
    (fun os started H enc _ => lifted os started H enc)

theorem proved : Rows.FnExactSumPairsSaid := over
#print axioms proved
end Go.Proofs.Ytddfgopgcglldaa.lawSumPairs
