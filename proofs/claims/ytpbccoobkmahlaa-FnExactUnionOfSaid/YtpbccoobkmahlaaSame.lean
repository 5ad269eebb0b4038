/- Lists of numbers told the same or not, by both sides. No conditions but that bits fit their kind. -/
import Derived.Test.YtpbccoobkmahlaaShapeE
namespace Go.Proofs.Ytpbccoobkmahlaa
open Go.Fl Go.RowKit

def atB (xs ys : List Nat) (k : Nat) : Bool := bitsI (xs.getD k 0) == bitsI (ys.getD k 0)
def sameL (xs ys : List Nat) : Bool := decide (xs.length = ys.length) && (List.range xs.length).all (atB xs ys)
theorem sameL_len {xs ys : List Nat} (h : ¬ xs.length = ys.length) : sameL xs ys = false := by simp [sameL, h]
theorem up_step {xs ys : List Nat} {k : Nat} (h : (List.range k).all (atB xs ys) = true) (hk : atB xs ys k = true) : (List.range (k + 1)).all (atB xs ys) = true := by
  rw [List.range_succ, List.all_append, h]; simp [hk]
theorem sameL_no {xs ys : List Nat} {k : Nat} (hk : k < xs.length) (h : atB xs ys k = false) : sameL xs ys = false := by
  have : (List.range xs.length).all (atB xs ys) = false := by
    rw [List.all_eq_false]
    exact ⟨k, List.mem_range.2 hk, by rw [h]; simp⟩
  simp [sameL, this]
theorem sameL_yes {xs ys : List Nat} {k : Nat} (hl : xs.length = ys.length) (hk : k = xs.length) (h : (List.range k).all (atB xs ys) = true) : sameL xs ys = true := by
  rw [hk] at h; unfold sameL; rw [h, decide_eq_true hl]; rfl
theorem get_lt {xs : List Nat} {k : Nat} (hk : k < xs.length) (h : ∀ x ∈ xs, x < 4294967296) : xs.getD k 0 < 4294967296 := by
  rw [show xs.getD k 0 = xs[k] by simp [hk]]; exact h _ (List.getElem_mem hk)
theorem fsrc {w : World} {a : Option Addr} {n cap : Nat} {xs : List Nat} (h : FIn w (.slice a n cap) xs) : ∀ k, k < xs.length → ∃ b o, a = some ⟨b, o, none⟩ ∧ b < w.heap.size ∧ w.cell? ⟨b, o + k, none⟩ = some (.float .f32 (xs.getD k 0)) := by
  intro k hk
  obtain ⟨a', cap', e, he⟩ := h
  injection e with e1 e2 e3
  subst e1
  rcases he with rfl | ⟨b, o, rfl, hc⟩
  · simp at hk
  · exact ⟨b, o, rfl, World.block_lt_of_cell? w _ (hc k hk), hc k hk⟩
set_option maxHeartbeats 1000000 in
theorem l01SameAll_any (v u : Value) (xs ys : List Nat) (w : World) (h : FIn w v xs) (h' : FIn w u ys) (hx : ∀ x ∈ xs, x < 4294967296) (hy : ∀ x ∈ ys, x < 4294967296) (hn : xs.length ≤ 1048576) :
    Calls Try.prog 57 #[v, u] w (BOut w (sameL xs ys)) := by
  obtain ⟨av, cv, rfl, _⟩ := id h
  obtain ⟨au, cu, rfl, _⟩ := id h'
  have HS := Lib.hid (fsrc h)
  have HS' := Lib.hid (fsrc h')
  have Hx := Lib.hid hx
  have Hy := Lib.hid hy
  clear h h' hx hy
  by_cases hl : xs.length = ys.length
  · have hll : ((xs.length : Int) != ys.length) = false := by simp; omega
    have HL := Lib.hid hl
    clear hl
    go_enter Try.func57, Try.ntmps57
    go_wp2_with fail
    go_loopw [5] (fun i wr => ∃ k n : Nat, k ≤ xs.length ∧ i = .int .i64 k ∧ wr = w.drewN n ∧ RowKit.Hid ((List.range k).all (atB xs ys) = true)) (fun i _ => xs.length - (intOf i).toNat)
    case atStart => exact ⟨0, 0, Nat.zero_le _, rfl, rfl, Lib.hid rfl⟩
    case round =>
      obtain ⟨k, n, hk, rfl, rfl, ha⟩ := hrel
      by_cases hlt : k < xs.length
      · have hlt2 : k < ys.length := by have := HL.out; omega
        obtain ⟨b, o, rfl, _, hc⟩ := HS.out k hlt
        obtain ⟨b', o', rfl, _, hc'⟩ := HS'.out k (by have := HL.out; omega)
        have hxk := get_lt hlt Hx.out
        have hyk := get_lt (xs := ys) (k := k) (by have := HL.out; omega) Hy.out
        have hAt := Lib.hid (show atB xs ys k = (bitsI (xs.getD k 0) == bitsI (ys.getD k 0)) from rfl)
        generalize xs.getD k 0 = x at *
        generalize ys.getD k 0 = y at *
        cases hq : (bitsI x == bitsI y)
        · have HN := Lib.hid (sameL_no hlt (hAt.out.trans hq))
          go_wp2_with fail
          go_region_with (go_at_call 86; refine (l01Same_any x y hxk hyk _).mono ?_; rintro e w1 ⟨rfl, m, rfl⟩)
          all_goals (go_wp2_with fail; go_ret; exact bout HN.out.symm rfl)
        · have HU := Lib.hid (up_step ha.out (hAt.out.trans hq))
          go_wp2_with fail
          go_region_with (go_at_call 86; refine (l01Same_any x y hxk hyk _).mono ?_; rintro e w1 ⟨rfl, m, rfl⟩)
          all_goals (go_wp2_with fail; go_roundw)
          all_goals first | exact ⟨k + 1, _, by omega, by go_num, rfl, HU⟩ | (simp [intOf]; omega)
      · have HY := Lib.hid (sameL_yes HL.out (show k = xs.length by omega) ha.out)
        go_wp2_with fail
        go_ret
        exact bout HY.out.symm rfl
  · have HN := Lib.hid (sameL_len hl)
    have hd : ((xs.length : Int) == ys.length) = false := by simp; omega
    go_enter Try.func57, Try.ntmps57
    go_wp2_with fail
    go_ret
    exact bout (n := 0) HN.out.symm rfl
end Go.Proofs.Ytpbccoobkmahlaa
