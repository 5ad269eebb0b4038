/- The law FnExactFromBits returns true for every integer. No conditions. -/
import Derived.Test.YtnjbmcjneigcpaaNum
namespace Go.Proofs.Ytnjbmcjneigcpaa.lawFromBits
open Go.ChangeShapes Go.WideShapes Go.ChangeAt Go.RowKit
open Go.Fl
set_option linter.unusedVariables false

/-- What both FromBits return. -/
def Bits (w : World) (n : Int) : Ending → World → Prop := fun e w' => w = w' ∧ (if 0 ≤ n ∧ n ≤ 4294967295 then e = .returned (.tuple #[.float .f32 n.toNat, .bool true]) else e = .returned (.tuple #[.float .f32 0, .bool false]))

theorem impl_any (n : Int) (w : World) : Calls Try.prog 30 #[.int .i64 n] w (Bits w n) := by
  by_cases h1 : 0 ≤ n
  · by_cases h2 : n ≤ 4294967295
    · go_enter Try.func30, Try.ntmps30
      go_wp2
      go_ret2
      exact ⟨rfl, by rw [if_pos ⟨h1, h2⟩]; rfl⟩
    · go_enter Try.func30, Try.ntmps30
      go_wp2
      go_ret2
      exact ⟨rfl, by rw [if_neg (by omega)]; rfl⟩
  · go_enter Try.func30, Try.ntmps30
    go_wp2
    go_ret2
    exact ⟨rfl, by rw [if_neg (by omega)]; rfl⟩
theorem spec_any (n : Int) (w : World) : Calls Try.prog 29 #[.int .i64 n] w (Bits w n) := by
  by_cases h1 : 0 ≤ n
  · by_cases h2 : n ≤ 4294967295
    · go_enter Try.func29, Try.ntmps29
      go_wp2
      go_ret2
      exact ⟨rfl, by rw [if_pos ⟨h1, h2⟩]; rfl⟩
    · go_enter Try.func29, Try.ntmps29
      go_wp2
      go_ret2
      exact ⟨rfl, by rw [if_neg (by omega)]; rfl⟩
  · go_enter Try.func29, Try.ntmps29
    go_wp2
    go_ret2
    exact ⟨rfl, by rw [if_neg (by omega)]; rfl⟩

theorem walk (n : Int) (hn : (Lit.int .i64 n).wf = true) (w : World) : Calls Try.prog 10 #[.int .i64 n] w fun e w' => e = .returned (.bool true) ∧ Below w.heap.size w w' := by
  by_cases h : 0 ≤ n ∧ n ≤ 4294967295
  · go_enter Try.func10, Try.ntmps10
    go_wp2_with fail
    refine (spec_any _ _).mono ?_
    rintro e w' ⟨rfl, he⟩
    rw [if_pos h] at he
    subst he
    go_wp2_with fail
    refine (impl_any _ _).mono ?_
    rintro e w' ⟨rfl, he⟩
    rw [if_pos h] at he
    subst he
    go_wp2_with (first | ((with_reducible refine wpList_widen ?_); refine ⟨_, ⟨rfl, rfl, by rw [Try.underlying23]; rfl, Try.underlying25⟩, ?_⟩; intro q n hq) | (go_at_call 19; refine (sameFloat_true _ _ (wide_eq (by assumption) (by assumption) rfl) _).mono ?_; rintro e w' ⟨rfl, n, rfl⟩))
    go_ret
    exact ⟨rfl, Fl.Below.drewN (Below.refl _ _) _⟩
  · go_enter Try.func10, Try.ntmps10
    go_wp2_with fail
    refine (spec_any _ _).mono ?_
    rintro e w' ⟨rfl, he⟩
    rw [if_neg h] at he
    subst he
    go_wp2_with fail
    refine (impl_any _ _).mono ?_
    rintro e w' ⟨rfl, he⟩
    rw [if_neg h] at he
    subst he
    go_wp2_with (first | ((with_reducible refine wpList_widen ?_); refine ⟨_, ⟨rfl, rfl, by rw [Try.underlying23]; rfl, Try.underlying25⟩, ?_⟩; intro q n hq) | (go_at_call 19; refine (sameFloat_true _ _ (wide_eq (by assumption) (by assumption) rfl) _).mono ?_; rintro e w' ⟨rfl, n, rfl⟩))
    go_ret
    exact ⟨rfl, Fl.Below.drewN (Below.refl _ _) _⟩

theorem own : ownKnob Try.prog.godebug = none := by kernel_rfl
theorem laidOut : laidOutB Try.prog = true := by kernel_rfl

set_option maxRecDepth 100000 in
theorem lifted (os : Os) (started : os.Started) (H : Type) (enc : TypeId × Value → H) :
    ReturnsInHanded {} Try.checked os 10 .any (Rows.fnExactFromBitsSpec.pre6 enc Try.prog Try.f10 Rows.fnExactFromBitsRow.domain false) (Rows.fnExactFromBitsSpec.post enc Try.prog Try.f10 false true false false) := by
  refine returnsInHanded_of_change (C := Try.checked) own started (by kernel_rfl) Try.func10
    (ChangeSpec.witness6 (enc := enc) (C := Try.checked) false ⟨#[], #[.int .i64 0], []⟩ 8 (by kernel_rfl) (by kernel_rfl) (by kernel_rfl) (by kernel_rfl)) ?_
  intro W base args ds gs before hval0 hW hcnd _
  have hval : ∀ (j : Nat) t v, Try.f10.params[j]? = some t → args[j]? = some v → Value.okWide Try.prog W .any base t v := hval0
  have hW' := hW
  obtain ⟨p, q, hA0, hV, rfl, hfz, hnd⟩ := hW
  have hA : DataW.TrodAll enc Try.prog W 0 (fun _ => true) true Try.f10.params.toList args.toList ds p := hA0
  rw [Try.params10] at hA hval
  obtain ⟨v0, vs0, d0, ds0, p0, q0, hargs, rfl, rfl, h0, r0⟩ := trodAll_cons hA
  obtain ⟨rfl, rfl, rfl⟩ := trodAll_nil r0
  obtain rfl : args = #[v0] := by cases args; simp_all
  obtain ⟨rfl, rfl⟩ := trodVars_none hV
  have k0 := h0
  have lt0 : ∀ x ∈ p0, x.block < W.heap.size := by obtain ⟨m, hm⟩ := k0; exact DataW.trod_lt m _ _ _ hm
  obtain ⟨a0, rfl, rfl, rfl, w0⟩ := open_int Try.underlying2 (hval 0 2 v0 rfl rfl) h0
  clear hA0 hval0
  refine (walk a0 w0 W).mono fun e W' ⟨he, bel⟩ => ?_
  subst he
  exact ⟨_, rfl, _, _, _, [], _, [], hW', trodAll_mk1 (shut_bool Try.underlying4 _), (trodAll_cons_mk (Below.trod laidOut (by kernel_rfl) (of_decide_eq_true (by kernel_rfl)) k0 bel lt0) trodAll_mk0), rfl, bel.frame _, fun h => by cases h⟩

theorem over : Rows.fnExactFromBitsRow.holds Try.pinned (OpenSpec.ofChange Rows.fnExactFromBitsSpec) :=
  OpenClaim.holds_of_wide 10 Try.f10 rfl rfl rfl rfl rfl rfl rfl ⟨rfl, rfl, rfl, rfl, rfl⟩ rfl rfl rfl rfl rfl (by kernel_rfl) Try.func10 (by kernel_rfl)
    (of_decide_eq_true (by kernel_rfl)) (by unfold Func.isWrapper; first | (rw [if_pos (by decide +kernel)]; kernel_rfl) | (rw [if_neg (by decide +kernel)]; exact ⟨rfl, rfl⟩))
    (fun os started H enc _ => lifted os started H enc)

theorem proved : Rows.FnExactFromBitsSaid := over
#print axioms proved
end Go.Proofs.Ytnjbmcjneigcpaa.lawFromBits
