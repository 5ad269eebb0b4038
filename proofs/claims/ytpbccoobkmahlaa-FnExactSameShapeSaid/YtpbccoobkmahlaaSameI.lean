/- Lists of numbers told the same by slices.EqualFunc. No conditions but that bits fit their kind. -/
import Derived.Test.YtpbccoobkmahlaaSame
namespace Go.Proofs.Ytpbccoobkmahlaa
open Go.Fl Go.RowKit

set_option maxHeartbeats 1000000 in
theorem EqualFunc32_any (v u : Value) (xs ys : List Nat) (w : World) (h : FIn w v xs) (h' : FIn w u ys) (hn : xs.length ≤ 1048576) :
    Calls Try.prog 102 #[v, u, .func (.func 103) #[] #[]] w (BOut w (sameL xs ys)) := by
  obtain ⟨av, cv, rfl, _⟩ := id h
  obtain ⟨au, cu, rfl, _⟩ := id h'
  have HS := Lib.hid (fsrc h)
  have HS' := Lib.hid (fsrc h')
  clear h h'
  by_cases hl : xs.length = ys.length
  · have hll : ((xs.length : Int) != ys.length) = false := by simp; omega
    have HL := Lib.hid hl
    clear hl
    go_enter Try.func102, Try.ntmps102
    go_wp2_with fail
    go_loopw [17] (fun i wr => ∃ k n : Nat, k ≤ xs.length ∧ i = .int .i64 k ∧ wr = w.drewN n ∧ RowKit.Hid ((List.range k).all (atB xs ys) = true)) (fun i _ => xs.length - (intOf i).toNat)
    case atStart => exact ⟨0, 0, Nat.zero_le _, rfl, rfl, Lib.hid rfl⟩
    case round =>
      obtain ⟨k, n, hk, rfl, rfl, ha⟩ := hrel
      by_cases hlt : k < xs.length
      · have hlt2 : k < ys.length := by have := HL.out; omega
        obtain ⟨b, o, rfl, _, hc⟩ := HS.out k hlt
        obtain ⟨b', o', rfl, _, hc'⟩ := HS'.out k hlt2
        have hAt := Lib.hid (show atB xs ys k = (bitsI (xs.getD k 0) == bitsI (ys.getD k 0)) from rfl)
        generalize xs.getD k 0 = x at *
        generalize ys.getD k 0 = y at *
        cases hq : (bitsI x == bitsI y)
        · have HN := Lib.hid (sameL_no hlt (hAt.out.trans hq))
          go_wp2_with (go_at_call 103; refine (SameNumber_any x y _).mono ?_; rintro e w1 ⟨rfl, m, rfl⟩)
          go_ret
          exact bout HN.out.symm rfl
        · have HU := Lib.hid (up_step ha.out (hAt.out.trans hq))
          go_wp2_with (go_at_call 103; refine (SameNumber_any x y _).mono ?_; rintro e w1 ⟨rfl, m, rfl⟩)
          go_roundw
          case rel => exact ⟨k + 1, _, by omega, by go_num, rfl, HU⟩
          case measure => simp [intOf]; omega
      · have HY := Lib.hid (sameL_yes HL.out (show k = xs.length by omega) ha.out)
        go_wp2_with fail
        go_ret
        exact bout HY.out.symm rfl
  · have HN := Lib.hid (sameL_len hl)
    have hd : ((xs.length : Int) != ys.length) = true := by simp; omega
    go_enter Try.func102, Try.ntmps102
    go_wp2_with fail
    go_ret
    exact bout (n := 0) HN.out.symm rfl
theorem sameList_any (v u : Value) (xs ys : List Nat) (w : World) (h : FIn w v xs) (h' : FIn w u ys) (hn : xs.length ≤ 1048576) :
    Calls Try.prog 88 #[v, u] w (BOut w (sameL xs ys)) := by
  have HE := Lib.hid (EqualFunc32_any v u xs ys w h h' hn)
  obtain ⟨av, cv, rfl, _⟩ := id h
  obtain ⟨au, cu, rfl, _⟩ := id h'
  clear h h'
  go_enter Try.func88, Try.ntmps88
  go_wp2_with (go_at_call 102; refine (Calls.mono (by exact HE.out) ?_); rintro e w1 ⟨rfl, n, rfl⟩)
  go_ret
  exact bout rfl rfl
def ndB (k a b k' a' b' : Int) (xs ys : List Nat) : Bool := (k == k') && ((a == a') && ((b == b') && sameL xs ys))
set_option maxHeartbeats 1000000 in
theorem sameNode_any (k a b k' a' b' : Int) (v u : Value) (xs ys : List Nat) (w : World) (h : FIn w v xs) (h' : FIn w u ys) (hn : xs.length ≤ 1048576) :
    Calls Try.prog 60 #[.agg #[.int .i64 k, .int .i64 a, .int .i64 b, v], .agg #[.int .i64 k', .int .i64 a', .int .i64 b', u]] w fun e w' => e = .returned (.bool (ndB k a b k' a' b' xs ys)) ∧ Below w.heap.size w w' := by
  have hb0 : Below w.heap.size w ((w.alloc (.cells #[.int .i64 k, .int .i64 a, .int .i64 b, v] 78)).alloc (.cells #[.int .i64 k', .int .i64 a', .int .i64 b', u] 78)) := bl_alloc (bl_alloc (bl_refl w) _) _
  have HE := Lib.hid (sameList_any _ _ xs ys _ (h.keep hb0) (h'.keep hb0) hn)
  obtain ⟨av, cv, rfl, _⟩ := id h
  obtain ⟨au, cu, rfl, _⟩ := id h'
  clear h h'
  cases h1 : (k == k')
  · have HR := Lib.hid (show ndB k a b k' a' b' xs ys = false by unfold ndB; rw [h1]; rfl)
    go_enter Try.func60, Try.ntmps60
    go_wp2_with fail
    go_ret
    exact ⟨ret_bool HR.out.symm, hb0⟩
  · cases h2 : (a == a')
    · have HR := Lib.hid (show ndB k a b k' a' b' xs ys = false by unfold ndB; rw [h1, h2]; rfl)
      go_enter Try.func60, Try.ntmps60
      go_wp2_with fail
      go_ret
      exact ⟨ret_bool HR.out.symm, hb0⟩
    · cases h3 : (b == b')
      · have HR := Lib.hid (show ndB k a b k' a' b' xs ys = false by unfold ndB; rw [h1, h2, h3]; rfl)
        go_enter Try.func60, Try.ntmps60
        go_wp2_with fail
        go_ret
        exact ⟨ret_bool HR.out.symm, hb0⟩
      · have HR := Lib.hid (show ndB k a b k' a' b' xs ys = sameL xs ys by unfold ndB; rw [h1, h2, h3]; rfl)
        go_enter Try.func60, Try.ntmps60
        go_wp2_with (go_at_call 88; refine (Calls.mono (by exact HE.out) ?_); rintro e w1 ⟨rfl, n, rfl⟩)
        go_ret
        exact ⟨ret_bool HR.out.symm, bl_drewN hb0 _⟩
end Go.Proofs.Ytpbccoobkmahlaa
