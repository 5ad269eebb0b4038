/- Whether all numbers of a list are finite. No conditions but a bound on the list's length. -/
import Derived.Test.YtpbccoobkmahlaaSl
namespace Go.Proofs.Ytpbccoobkmahlaa
open Go.Fl Go.RowKit

theorem finite1_any (x : Nat) (w : World) : Calls Try.prog 104 #[.float .f32 x] w (BOut w (!isFin x)) := by
  go_enter Try.func104, Try.ntmps104
  go_wp2_with (go_at_call 105; refine (IsFinite_any _ _).mono ?_; rintro e w' ⟨rfl, n, rfl⟩)
  go_ret
  exact ⟨rfl, _, rfl⟩
/-- Whether the first k numbers are finite. -/
def allFin (xs : List Nat) (k : Nat) : Bool := (xs.take k).all isFin
theorem allFin_yes {xs : List Nat} {k : Nat} (hk : k < xs.length) (h : allFin xs k = true) (hx : isFin (xs.getD k 0) = true) : allFin xs (k + 1) = true := by
  unfold allFin at *; rw [take_snoc xs k hk, List.all_append, h]; simpa [hk] using hx
theorem allFin_no {xs : List Nat} {k : Nat} (hk : k < xs.length) (hx : isFin (xs.getD k 0) = false) : allFin xs xs.length = false := by
  unfold allFin
  rw [List.take_length, List.all_eq_false]
  exact ⟨xs[k], List.getElem_mem hk, by simpa [hk] using hx⟩
theorem IndexFunc_any (v : Value) (xs : List Nat) (w : World) (h : FIn w v xs) (hn : xs.length ≤ 1048576) : Calls Try.prog 106 #[v, .func (.func 104) #[] #[]] w
    fun e w' => ∃ (i : Int) (n : Nat), e = .returned (.int .i64 i) ∧ decide (0 ≤ i) = !(allFin xs xs.length) ∧ w' = w.drewN n := by
  obtain ⟨a, cap, rfl, he⟩ := h
  have hsrc : ∀ k, k < xs.length → ∃ b o, a = some ⟨b, o, none⟩ ∧ w.cell? ⟨b, o + k, none⟩ = some (.float .f32 (xs.getD k 0)) := by
    intro k hk
    rcases he with rfl | ⟨b, o, ha, hc⟩
    · simp at hk
    · exact ⟨b, o, ha, hc k hk⟩
  clear he
  go_enter Try.func106, Try.ntmps106
  go_wp2_with fail
  go_loopw [8] (fun i wr => ∃ k n : Nat, k ≤ xs.length ∧ i = .int .i64 k ∧ wr = w.drewN n ∧ RowKit.Hid (allFin xs k = true)) (fun i _ => xs.length - (intOf i).toNat)
  case atStart => exact ⟨0, 0, Nat.zero_le _, rfl, rfl, Lib.hid rfl⟩
  case round =>
    obtain ⟨k, n, hk, rfl, rfl, hal⟩ := hrel
    by_cases hlt : k < xs.length
    · obtain ⟨b, o, rfl, hc⟩ := hsrc k hlt
      clear hsrc
      cases hx : isFin (xs.getD k 0)
      · have H := Lib.hid (allFin_no hlt hx)
        generalize xs.getD k 0 = x at hc hx
        go_wp2_with (go_at_call 104; refine (finite1_any _ _).mono ?_; rintro e w' ⟨rfl, m, rfl⟩)
        go_ret
        exact ⟨_, _, rfl, by rw [H.out]; simp, rfl⟩
      · have H := Lib.hid (allFin_yes hlt hal.out hx)
        generalize xs.getD k 0 = x at hc hx
        go_wp2_with (go_at_call 104; refine (finite1_any _ _).mono ?_; rintro e w' ⟨rfl, m, rfl⟩)
        go_roundw
        case rel => exact ⟨k + 1, _, by omega, by go_num, rfl, H⟩
        case measure => simp [intOf]; omega
    · obtain rfl : k = xs.length := by omega
      clear hsrc
      go_wp2_with fail
      go_ret
      exact ⟨_, _, rfl, by rw [hal.out]; simp, rfl⟩
theorem ContainsFunc_any (v : Value) (xs : List Nat) (w : World) (h : FIn w v xs) (hn : xs.length ≤ 1048576) : Calls Try.prog 90 #[v, .func (.func 104) #[] #[]] w (BOut w (!(allFin xs xs.length))) := by
  go_enter Try.func90, Try.ntmps90
  go_wp2_with (go_at_call 106; refine (IndexFunc_any _ _ _ h hn).mono ?_; rintro e w' ⟨i, n, rfl, hi, rfl⟩)
  go_ret
  exact ⟨rfl, _, rfl⟩
theorem finite_any (v : Value) (xs : List Nat) (w : World) (h : FIn w v xs) (hn : xs.length ≤ 1048576) : Calls Try.prog 89 #[v] w (BOut w (allFin xs xs.length)) := by
  go_enter Try.func89, Try.ntmps89
  go_wp2_with (go_at_call 90; refine (ContainsFunc_any _ _ _ h hn).mono ?_; rintro e w' ⟨rfl, n, rfl⟩)
  go_ret
  exact ⟨ret_bool (by simp), _, rfl⟩
end Go.Proofs.Ytpbccoobkmahlaa
