/- Which shapes are right, in plain terms: rules of kinds, numbers, children, parents. No conditions. -/
import Derived.Test.YtpbccoobkmahlaaShape
import Derived.Test.YtpbccoobkmahlaaFinite
namespace Go.Proofs.Ytpbccoobkmahlaa
open Go.Fl Go.RowKit

def kidsK (k : Int) : Nat := if 5 ≤ k ∧ k ≤ 8 then 2 else if 9 ≤ k ∧ k ≤ 16 then 1 else 0
def cntK (k : Int) : Nat := if k = 4 then 4 else if k = 1 ∨ k = 9 ∨ k = 11 then 3 else if k = 2 ∨ k = 3 then 2 else if k = 0 ∨ k = 8 ∨ k = 10 ∨ k = 12 ∨ 14 ≤ k ∧ k ≤ 16 then 1 else 0
def axK (k : Int) : Bool := decide (12 ≤ k) && decide (k ≤ 14)
def sgK (k : Int) : Nat := if 0 ≤ k ∧ k ≤ 3 ∨ k = 16 then 1 else if k = 8 ∨ k = 10 ∨ k = 11 ∨ k = 14 then 2 else 0
def okK (k : Int) : Bool := decide (0 ≤ k) && decide (k ≤ 16)
def leafK (k : Int) : Bool := decide (0 ≤ k) && decide (k ≤ 4)
def twoK (k : Int) : Bool := decide (5 ≤ k) && decide (k ≤ 8)
def ltB (x : Nat) : Bool := FloatKind.f32.format.order x 0 == some .lt
def leB (x : Nat) : Bool := FloatKind.f32.format.order x 0 == some .lt || FloatKind.f32.format.order x 0 == some .eq
/-- A number with the wrong sign. -/
def sgBad (s x : Nat) : Bool := ((s : Int) == 1) && ltB x || (((s : Int) == 2) && leB x)
def numB (s x : Nat) : Bool := isFin x && !sgBad s x
def numsB (k : Int) (xs : List Nat) : Bool := decide (xs.length = cntK k) && xs.all (numB (sgK k))
def inB (n lo hi : Int) : Bool := decide (lo ≤ n) && decide (n ≤ hi)
def kidsOf (d : Nd) : List Int := [d.a, d.b].take (kidsK d.k)
def axB (d : Nd) : Bool := (decide (0 < kidsK d.k) || d.a == 0) && (decide (kidsK d.k = 2) || (d.b == 0 || (axK d.k && inB d.b 0 2)))
def okNd (i : Nat) (d : Nd) : Bool := okK d.k && (numsB d.k d.xs && (axB d && (kidsOf d).all fun c => inB c 0 ((i : Int) - 1)))
def at_ (L : List Nd) (i : Nat) : Nd := L.getD i default
def okTo (L : List Nd) (k : Nat) : Bool := (List.range k).all fun i => okNd i (at_ L i)
/-- The children that the first k nodes name. -/
def named (L : List Nd) : Nat → List Nat
  | 0 => []
  | k + 1 => named L k ++ (kidsOf (at_ L k)).map Int.toNat
def onceTo (L : List Nd) (n k : Nat) : Bool := (List.range k).all fun j => decide ((named L n).count j = 1)
def valid (L : List Nd) : Bool := (decide (1 ≤ L.length) && decide (L.length ≤ 16)) && (okTo L L.length && onceTo L L.length (L.length - 1))
theorem okTo_yes {L : List Nd} {k : Nat} (h : okTo L k = true) (hk : okNd k (at_ L k) = true) : okTo L (k + 1) = true := by
  unfold okTo at *; rw [List.range_succ, List.all_append, h]; simp [hk]
theorem okTo_no {L : List Nd} {k : Nat} (hl : k < L.length) (hk : okNd k (at_ L k) = false) : valid L = false := by
  have : okTo L L.length = false := by
    unfold okTo; rw [List.all_eq_false]
    exact ⟨k, List.mem_range.2 hl, by rw [hk]; simp⟩
  simp [valid, this]
theorem okTo_at {L : List Nd} {n i : Nat} (h : okTo L n = true) (hi : i < n) : okNd i (at_ L i) = true := by
  unfold okTo at h; rw [List.all_eq_true] at h; exact h i (List.mem_range.2 hi)
theorem valid_len {L : List Nd} (h : ¬ (1 ≤ L.length ∧ L.length ≤ 16)) : valid L = false := by
  have : (decide (1 ≤ L.length) && decide (L.length ≤ 16)) = false := by simp; omega
  simp [valid, this]
theorem valid_parts {L : List Nd} (h : valid L = true) : 1 ≤ L.length ∧ L.length ≤ 16 ∧ okTo L L.length = true ∧ onceTo L L.length (L.length - 1) = true := by
  simp only [valid, Bool.and_eq_true, decide_eq_true_eq] at h
  exact ⟨h.1.1, h.1.2, h.2.1, h.2.2⟩
theorem valid_eq {L : List Nd} (h : 1 ≤ L.length ∧ L.length ≤ 16) (ho : okTo L L.length = true) : valid L = onceTo L L.length (L.length - 1) := by
  simp [valid, h.1, h.2, ho]
theorem kids_in {i : Nat} {d : Nd} (h : okNd i d = true) : ∀ c ∈ kidsOf d, 0 ≤ c ∧ c < i := by
  simp only [okNd, Bool.and_eq_true, List.all_eq_true, inB, decide_eq_true_eq] at h
  intro c hc
  have := h.2.2.2 c hc
  omega
theorem named_lt {L : List Nd} : ∀ {n : Nat}, okTo L n = true → ∀ c ∈ named L n, c + 1 < n
  | 0, _, c, hc => by simp [named] at hc
  | n + 1, h, c, hc => by
    have hn : okTo L n = true := by
      unfold okTo at h ⊢; rw [List.range_succ, List.all_append, Bool.and_eq_true] at h; exact h.1
    simp only [named, List.mem_append, List.mem_map] at hc
    rcases hc with hc | ⟨c', hc', rfl⟩
    · have := named_lt hn c hc; omega
    · have := kids_in (okTo_at h (Nat.lt_succ_self n)) c' hc'; omega
/-- The last node has no parent. -/
theorem last_free {L : List Nd} (h : okTo L L.length = true) : (named L L.length).count (L.length - 1) = 0 := by
  rw [List.count_eq_zero]
  intro hm
  have := named_lt h _ hm
  omega
theorem once_yes {L : List Nd} {n k : Nat} (h : onceTo L n k = true) (hk : (named L n).count k = 1) : onceTo L n (k + 1) = true := by
  unfold onceTo at *; rw [List.range_succ, List.all_append, h]; simp [hk]
theorem once_no {L : List Nd} {n k m : Nat} (hl : k < m) (hk : ¬ (named L n).count k = 1) : onceTo L n m = false := by
  unfold onceTo; rw [List.all_eq_false]
  exact ⟨k, List.mem_range.2 hl, by simp [hk]⟩
/-- How often each number up to n is named, as a row of numbers. -/
def cntRow (n : Nat) (R : List Nat) : List Value := (List.range n).map fun j => .int .i64 ((R.count j : Nat) : Int)
theorem cntRow_len (n : Nat) (R : List Nat) : (cntRow n R).length = n := by simp [cntRow]
theorem cntRow_get {n j : Nat} (R : List Nat) (h : j < n) : (cntRow n R)[j]? = some (.int .i64 ((R.count j : Nat) : Int)) := by simp [cntRow, h]
theorem cntRow_zero (n : Nat) : (madeCells (Value.int .i64 0).cells (n * 1)).toList = cntRow n [] := by
  refine List.ext_getElem (by simp [madeCells, cntRow]) fun i h1 h2 => ?_
  simp [madeCells, Value.cells, Nat.mod_one, cntRow]
theorem cntRow_set {n a : Nat} (R : List Nat) (_ : a < n) : (cntRow n R).set a (.int .i64 ((R.count a : Nat) + 1 : Int)) = cntRow n (R ++ [a]) := by
  refine List.ext_getElem (by simp [cntRow]) fun i h1 h2 => ?_
  simp only [cntRow, List.getElem_set, List.getElem_map, List.getElem_range, List.count_append]
  split
  · rename_i h; subst h; simp
  · rename_i h
    simp [h]
/-! How the reference asks it. -/
theorem leaf_kids {k : Int} (h : okK k = true) : leafK k = decide (kidsK k = 0) := by
  simp only [okK, Bool.and_eq_true, decide_eq_true_eq] at h
  unfold leafK kidsK
  by_cases h1 : 5 ≤ k ∧ k ≤ 8
  · rw [if_pos h1]; simp; omega
  · rw [if_neg h1]
    by_cases h2 : 9 ≤ k ∧ k ≤ 16
    · rw [if_pos h2]; simp; omega
    · rw [if_neg h2]; simp; omega
theorem two_kids (k : Int) : twoK k = decide (kidsK k = 2) := by
  unfold twoK kidsK
  by_cases h1 : 5 ≤ k ∧ k ≤ 8
  · rw [if_pos h1]; simp; omega
  · rw [if_neg h1]
    by_cases h2 : 9 ≤ k ∧ k ≤ 16
    · rw [if_pos h2]; simp; omega
    · rw [if_neg h2]; simp; omega
theorem kids_le (k : Int) : kidsK k ≤ 2 := by unfold kidsK; split <;> (try split) <;> omega
theorem cnt_le (k : Int) : cntK k ≤ 4 := by unfold cntK; (repeat' split) <;> omega
end Go.Proofs.Ytpbccoobkmahlaa
