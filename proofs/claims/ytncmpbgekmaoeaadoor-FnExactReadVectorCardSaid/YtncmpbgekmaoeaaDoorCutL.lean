/- A text cut at its commas: plain facts, no program. -/
import Derived.Test.YtncmpbgekmaoeaaDoorRows
import Derived.Lib.SplitLaws
import Derived.Lib.IndexBytes
namespace Go.Proofs.YtncmpbgekmaoeaaDoor

def cutL : List UInt8 → List (List UInt8)
  | [] => [[]]
  | c :: r => if c = 44 then [] :: cutL r else match cutL r with
    | h :: t => (c :: h) :: t
    | [] => [[c]]
theorem cutL_ne : ∀ l, cutL l ≠ []
  | [] => by simp [cutL]
  | c :: r => by
    unfold cutL
    split
    · simp
    · split <;> simp
theorem cutL_len : ∀ l, (cutL l).length ≤ l.length + 1
  | [] => by simp [cutL]
  | c :: r => by
    have := cutL_len r
    unfold cutL
    split
    · simp; omega
    · split
      · rename_i h t e; rw [e] at this; simp at this ⊢; omega
      · simp
theorem cutL_pre : ∀ (pre r : List UInt8), 44 ∉ pre → cutL (pre ++ 44 :: r) = pre :: cutL r
  | [], r, _ => by simp [cutL]
  | c :: p, r, h => by
    have hc : ¬ c = 44 := fun e => h (by rw [e]; simp)
    have ih := cutL_pre p r (fun e => h (List.mem_cons_of_mem _ e))
    rw [List.cons_append]
    conv => lhs; unfold cutL
    rw [if_neg hc, ih]
theorem cutL_one : ∀ pre : List UInt8, 44 ∉ pre → cutL pre = [pre]
  | [], _ => rfl
  | c :: p, h => by
    have hc : ¬ c = 44 := fun e => h (by rw [e]; simp)
    have ih := cutL_one p (fun e => h (List.mem_cons_of_mem _ e))
    unfold cutL
    rw [if_neg hc, ih]
theorem idx_hit : ∀ (l : List UInt8) (i : Nat), Lib.indexByte l 44 = i → cutL l = l.take i :: cutL (l.drop (i + 1))
  | [], i, h => by simp only [Lib.indexByte] at h; omega
  | c :: r, i, h => by
    unfold Lib.indexByte at h
    split at h
    · rename_i hc
      have hc' : c = 44 := by simpa using hc
      obtain rfl : i = 0 := by omega
      subst hc'
      simp [cutL]
    · rename_i hc
      have hc' : ¬ c = 44 := by simpa using hc
      split at h
      · omega
      · obtain ⟨j, rfl⟩ : ∃ j, i = j + 1 := by
          cases i with
          | zero => exact absurd h (by rename_i h1; have := Lib.indexByte_ge r 44; intro e; have h2 : ¬ Lib.indexByte r 44 = -1 := fun e => h1 (by simp [e]); omega)
          | succ j => exact ⟨j, rfl⟩
        have ih := idx_hit r j (by omega)
        conv => lhs; unfold cutL; rw [if_neg hc', ih]
        simp only [List.take_succ_cons, List.drop_succ_cons]
theorem idx_miss : ∀ l : List UInt8, Lib.indexByte l 44 = -1 → cutL l = [l]
  | [], _ => rfl
  | c :: r, h => by
    unfold Lib.indexByte at h
    split at h
    · cases h
    · rename_i hc
      have hc' : ¬ c = 44 := by simpa using hc
      split at h
      · rename_i h1
        have ih := idx_miss r (by simpa using h1)
        unfold cutL
        rw [if_neg hc', ih]
      · have := Lib.indexByte_ge r 44; omega
theorem split_cut : ∀ (k : Nat) (l : List UInt8), Lib.count l [44] = k → Lib.splitK [44] 0 k l = cutL l
  | 0, l, h => by
    have hm : Lib.indexByte l 44 = -1 := by
      rw [← Lib.index_one]
      have hge := Lib.index_ge l [44]
      by_cases hi : Lib.index l [44] = -1
      · exact hi
      · obtain ⟨i, hi⟩ : ∃ i : Nat, Lib.index l [44] = i := ⟨(Lib.index l [44]).toNat, by omega⟩
        rw [Lib.count_hit (by simp) hi] at h; omega
    rw [idx_miss l hm]; rfl
  | k + 1, l, h => by
    have hge := Lib.index_ge l [44]
    by_cases hm : Lib.index l [44] = -1
    · rw [Lib.count_miss hm] at h; omega
    · obtain ⟨i, hi⟩ : ∃ i : Nat, Lib.index l [44] = i := ⟨(Lib.index l [44]).toNat, by omega⟩
      have hc := Lib.count_hit (by simp) hi
      rw [h] at hc
      have ih := split_cut k (l.drop (i + 1)) (by simp only [List.length_singleton] at hc; omega)
      unfold Lib.splitK
      rw [if_neg (by simpa using hm), hi]
      rw [idx_hit l i (by rw [← Lib.index_one]; exact hi)]
      simp only [Int.toNat_natCast, Nat.add_zero, List.length_singleton, ih]

theorem cutL_mem : ∀ (l p : List UInt8), p ∈ cutL l → p.length ≤ l.length
  | [], p, h => by simp [cutL] at h; simp [h]
  | c :: r, p, h => by
    unfold cutL at h
    split at h
    · rcases List.mem_cons.1 h with rfl | h
      · simp
      · have := cutL_mem r p h; simp; omega
    · split at h
      · rename_i a t e
        rcases List.mem_cons.1 h with rfl | h
        · have := cutL_mem r a (by rw [e]; simp); simp; omega
        · have := cutL_mem r p (by rw [e]; simp [h]); simp; omega
      · simp at h; subst h; simp
/-- The parts of a list's text; the word none has no part. -/
def partsOf (l : List UInt8) : List (List UInt8) := if l = [110, 111, 110, 101] then [] else cutL l
theorem partsOf_mem {l p : List UInt8} (h : p ∈ partsOf l) : p.length ≤ l.length := by
  unfold partsOf at h
  split at h
  · simp at h
  · exact cutL_mem l p h
theorem partsOf_len (l : List UInt8) : (partsOf l).length ≤ l.length + 1 := by
  unfold partsOf
  split
  · simp
  · exact cutL_len l
theorem split_parts {s : ByteArray} : (Lib.splitB ⟨#[44]⟩ 0 (Lib.countB s ⟨#[44]⟩) s).map (·.data.toList) = cutL s.data.toList := by
  rw [Lib.splitB_data]
  exact split_cut _ _ rfl
theorem split_len {s : ByteArray} : Lib.countB s ⟨#[44]⟩ + 1 = (cutL s.data.toList).length := by
  rw [← split_parts, List.length_map, Lib.splitB_all _ (by decide) 0 _ s rfl]

/-- The parts so far (P), the place behind the last comma (f), of the text l, at the place i. -/
def CutSt (l : List UInt8) (f i : Nat) (P : List (List UInt8)) : Prop := P ++ cutL (l.drop f) = cutL l ∧ f ≤ i ∧ i ≤ l.length ∧ 44 ∉ (l.drop f).take (i - f)
theorem CutSt.start (l : List UInt8) : CutSt l 0 0 [] := ⟨by simp, Nat.le_refl _, Nat.zero_le _, by simp⟩
theorem CutSt.len {l : List UInt8} {f i : Nat} {P : List (List UInt8)} (h : CutSt l f i P) : P.length ≤ l.length := by
  have h1 := congrArg List.length h.1
  rw [List.length_append] at h1
  have h2 := cutL_len l
  have h3 := List.length_pos_iff.2 (cutL_ne (l.drop f))
  omega
theorem drop_split {l : List UInt8} {f i : Nat} (hf : f ≤ i) (hi : i < l.length) : l.drop f = (l.drop f).take (i - f) ++ l[i] :: l.drop (i + 1) := by
  conv => lhs; rw [← List.take_append_drop (i - f) (l.drop f)]
  rw [List.drop_drop, show f + (i - f) = i by omega, List.drop_eq_getElem_cons hi]
theorem CutSt.comma {l : List UInt8} {f i : Nat} {P : List (List UInt8)} (h : CutSt l f i P) (hi : i < l.length) (hc : l[i] = 44) : CutSt l (i + 1) (i + 1) (P ++ [(l.drop f).take (i - f)]) := by
  obtain ⟨h1, h2, h3, h4⟩ := h
  refine ⟨?_, Nat.le_refl _, by omega, by simp⟩
  rw [← h1]
  conv => rhs; rw [drop_split h2 hi, hc, cutL_pre _ _ h4]
  simp
theorem CutSt.other {l : List UInt8} {f i : Nat} {P : List (List UInt8)} (h : CutSt l f i P) (hi : i < l.length) (hc : ¬ l[i] = 44) : CutSt l f (i + 1) P := by
  obtain ⟨h1, h2, h3, h4⟩ := h
  refine ⟨h1, by omega, by omega, ?_⟩
  have e : (l.drop f).take (i + 1 - f) = (l.drop f).take (i - f) ++ [l[i]] := by
    rw [show i + 1 - f = (i - f) + 1 by omega, List.take_succ_eq_append_getElem (by rw [List.length_drop]; omega), List.getElem_drop]
    congr 3; omega
  rw [e, List.mem_append, not_or]
  exact ⟨h4, by simpa using fun e => hc e.symm⟩
theorem CutSt.last {l : List UInt8} {f : Nat} {P : List (List UInt8)} (h : CutSt l f l.length P) : P ++ [(l.drop f).take (l.length - f)] = cutL l := by
  obtain ⟨h1, h2, h3, h4⟩ := h
  have e : (l.drop f).take (l.length - f) = l.drop f := List.take_of_length_le (by rw [List.length_drop]; omega)
  rw [e] at h4 ⊢
  rw [← h1, cutL_one _ h4]
end Go.Proofs.YtncmpbgekmaoeaaDoor
