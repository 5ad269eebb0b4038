/- The law FnExactNumbersText returns true for every list of numbers. No conditions. -/
import Derived.Test.YtncmpbgekmaoeaaHexT
import Derived.Test.YtncmpbgekmaoeaaOpen
namespace Go.Proofs.Ytncmpbgekmaoeaa.lawNumbersText
open Go.ChangeShapes Go.WideShapes Go.ChangeAt Go.RowKit
open Go.Fl
set_option linter.unusedVariables false

set_option maxHeartbeats 1000000 in
theorem walk (v : Value) (xs : List Nat) (w : World) (hin : FIn w v xs) (hx : ∀ x ∈ xs, x < 4294967296) : Calls Try.prog 5 #[v] w fun e w' => e = .returned (.bool true) ∧ Below w.heap.size w w' := by
  have hin' := hin
  obtain ⟨a, cap, rfl, _⟩ := hin'
  by_cases hn : xs.length ≤ 1048576
  · have hd : decide ((1048576 : Int) < xs.length) = false := by simp; omega
    have Hx := Lib.hid hx
    clear hx
    go_enter Try.func5, Try.ntmps5
    go_wp2_with fail
    refine (toFloat32S_any _ _ _ hin hn).mono ?_
    rintro e w1 ⟨g1, rfl, hg1, ho1, hb1⟩
    have h1 := FIn_of_row rfl ho1
    go_wp2_with fail
    refine (spec_NumbersText_any _ _ _ h1 Hx.out hn).mono ?_
    rintro e w2 ⟨rfl, hb2⟩
    have e2 := bl_call hb1 hb2
    go_wp2_with fail
    refine (toFloat32S_any _ _ _ (hin.keep e2) hn).mono ?_
    rintro e w3 ⟨g3, rfl, hg3, ho3, hb3⟩
    have h3 := FIn_of_row rfl ho3
    have e3 := bl_call e2 hb3
    go_wp2_with fail
    refine (NumbersText_any _ _ _ h3 Hx.out hn).mono ?_
    rintro e w4 ⟨rfl, hb4⟩
    have e4 := bl_call e3 hb4
    go_wp2_with (first | (go_at_call 11; refine (toFloat32S_any _ _ _ (hin.keep e4) hn).mono ?_; rintro e w5 ⟨g5, rfl, hg5, ho5, hb5⟩; have h5 := FIn_of_row rfl ho5) | (go_at_call 13; refine (eqFloat32S_true _ _ _ _ ((h3.keep hb4).keep hb5) h5 hn).mono ?_; rintro e w6 ⟨rfl, n6, rfl⟩))
    all_goals (go_ret; exact ⟨rfl, bl_drewN (bl_call e4 hb5) _⟩)
  · have hd : decide ((1048576 : Int) < xs.length) = true := by simp; omega
    go_enter Try.func5, Try.ntmps5
    go_wp2_with fail
    go_ret
    exact ⟨rfl, bl_refl _⟩

theorem own : ownKnob Try.prog.godebug = none := by kernel_rfl
theorem laidOut : laidOutB Try.prog = true := by kernel_rfl

set_option maxRecDepth 100000 in
theorem lifted (os : Os) (started : os.Started) (H : Type) (enc : TypeId × Value → H) :
    ReturnsInHanded {} Try.checked os 5 .any (Rows.fnExactNumbersTextSpec.pre6 enc Try.prog Try.f5 Rows.fnExactNumbersTextRow.domain false) (Rows.fnExactNumbersTextSpec.post enc Try.prog Try.f5 false true false false) := by
  refine returnsInHanded_of_change (C := Try.checked) own started (by kernel_rfl) Try.func5
    (ChangeSpec.witness6 (enc := enc) (C := Try.checked) false ⟨#[], #[.slice none 0 0], []⟩ 8 (by kernel_rfl) (by kernel_rfl) (by kernel_rfl) (by kernel_rfl)) ?_
  intro W base args ds gs before hval0 hW hcnd _
  have hval : ∀ (j : Nat) t v, Try.f5.params[j]? = some t → args[j]? = some v → Value.okWide Try.prog W .any base t v := hval0
  have hW' := hW
  obtain ⟨p, q, hA0, hV, rfl, hfz, hnd⟩ := hW
  have hA : DataW.TrodAll enc Try.prog W 0 (fun _ => true) true Try.f5.params.toList args.toList ds p := hA0
  rw [Try.params5] at hA hval
  obtain ⟨v0, vs0, d0, ds0, p0, q0, hargs, rfl, rfl, h0, r0⟩ := trodAll_cons hA
  obtain ⟨rfl, rfl, rfl⟩ := trodAll_nil r0
  obtain rfl : args = #[v0] := by cases args; simp_all
  obtain ⟨rfl, rfl⟩ := trodVars_none hV
  have k0 := h0
  have lt0 : ∀ x ∈ p0, x.block < W.heap.size := by obtain ⟨m, hm⟩ := k0; exact DataW.trod_lt m _ _ _ hm
  obtain ⟨xs0, w0, wb0⟩ := open_f32sb Try.underlying26 Try.underlying35 (by kernel_rfl) (hval 0 26 v0 rfl rfl) h0
  clear hA0 hval0
  refine (walk v0 xs0 W w0 wb0).mono fun e W' ⟨he, bel⟩ => ?_
  subst he
  exact ⟨_, rfl, _, _, _, [], _, [], hW', trodAll_mk1 (shut_bool Try.underlying4 _), (trodAll_cons_mk (Below.trod laidOut (by kernel_rfl) (of_decide_eq_true (by kernel_rfl)) k0 bel lt0) trodAll_mk0), rfl, bel.frame _, fun h => by cases h⟩

theorem over : Rows.fnExactNumbersTextRow.holds Try.pinned (OpenSpec.ofChange Rows.fnExactNumbersTextSpec) :=
  OpenClaim.holds_of_wide 5 Try.f5 rfl rfl rfl rfl rfl rfl rfl ⟨rfl, rfl, rfl, rfl, rfl⟩ rfl rfl rfl rfl rfl (by kernel_rfl) Try.func5 (by kernel_rfl)
    (of_decide_eq_true (by kernel_rfl)) (by unfold Func.isWrapper; first | (rw [if_pos (by decide +kernel)]; kernel_rfl) | (rw [if_neg (by decide +kernel)]; exact ⟨rfl, rfl⟩))
    (fun os started H enc _ => lifted os started H enc)

theorem proved : Rows.FnExactNumbersTextSaid := over
#print axioms proved
end Go.Proofs.Ytncmpbgekmaoeaa.lawNumbersText
