/- Numerals read back: plain facts, no program. -/
import Derived.Test.YtncmpbgekmaoeaaDoorRows
import Derived.Lib.ItoaNum
import Derived.Lib.ParseIntB
namespace Go.Proofs.YtncmpbgekmaoeaaDoor

/-- One byte more of a number: what is no digit is passed over. -/
def stp (n : Nat) (c : UInt8) : Nat := if 48 ≤ c.toNat ∧ c.toNat ≤ 57 then 10 * n + (c.toNat - 48) else n
def vN (l : List UInt8) : Nat := l.foldl stp 0
/-- The number that a text's digits spell, with the sign of a first '-'. -/
def vI (l : List UInt8) : Int := if l.headD 0 = 45 then -(vN l : Int) else vN l
theorem vN_snoc (l : List UInt8) (c : UInt8) : vN (l ++ [c]) = stp (vN l) c := by simp [vN]
theorem stp_lt {n k : Nat} (c : UInt8) (h : n < 10 ^ k) : stp n c < 10 ^ (k + 1) := by
  unfold stp
  rw [Nat.pow_succ]
  split <;> omega
theorem vN_take_lt (l : List UInt8) : ∀ k, vN (l.take k) < 10 ^ k
  | 0 => by simp [vN]
  | k + 1 => by
    by_cases h : k < l.length
    · rw [List.take_succ_eq_append_getElem h, vN_snoc]
      exact stp_lt _ (vN_take_lt l k)
    · rw [List.take_of_length_le (by omega)]
      have := vN_take_lt l k
      rw [List.take_of_length_le (by omega)] at this
      rw [Nat.pow_succ]; omega
theorem dig_toNat (u : Nat) : (UInt8.ofNat (48 + u % 10)).toNat = 48 + u % 10 := by
  rw [UInt8.toNat_ofNat', Nat.mod_eq_of_lt (by omega)]
theorem vN_dec (u : Nat) : vN (Lib.decDigits u) = u := by
  induction u using Nat.strongRecOn with
  | _ u ih =>
    by_cases h : u < 10
    · have := dig_toNat u
      rw [Nat.mod_eq_of_lt h] at this
      rw [Lib.decDigits, dif_pos h]
      simp only [vN, List.foldl_cons, List.foldl_nil, stp, this]
      rw [if_pos (by omega)]; omega
    · rw [Lib.decDigits, dif_neg h, vN_snoc, ih (u / 10) (by omega), stp, dig_toNat, if_pos (by omega)]
      omega
theorem dec_head (u : Nat) : ∃ c r, Lib.decDigits u = c :: r ∧ 48 ≤ c.toNat ∧ c.toNat ≤ 57 := by
  induction u using Nat.strongRecOn with
  | _ u ih =>
    by_cases h : u < 10
    · refine ⟨_, [], by rw [Lib.decDigits, dif_pos h], ?_⟩
      have := dig_toNat u
      rw [Nat.mod_eq_of_lt h] at this
      omega
    · obtain ⟨c, r, e, h1, h2⟩ := ih (u / 10) (by omega)
      exact ⟨c, r ++ [UInt8.ofNat (48 + u % 10)], by rw [Lib.decDigits, dif_neg h, e]; rfl, h1, h2⟩
theorem vI_itoa (n : Int) : vI (Lib.itoa n) = n := by
  unfold Lib.itoa vI
  by_cases h : n < 0
  · rw [if_pos h]
    have e : vN (45 :: Lib.decDigits n.natAbs) = vN (Lib.decDigits n.natAbs) := rfl
    rw [e, vN_dec, List.headD_cons, if_pos rfl]
    omega
  · rw [if_neg h]
    obtain ⟨c, r, e, h1, h2⟩ := dec_head n.toNat
    have hc : ¬ (Lib.decDigits n.toNat).headD 0 = 45 := by
      rw [e, List.headD_cons]
      intro hc; rw [hc] at h1; simp at h1
    rw [if_neg hc, vN_dec]; omega
theorem parse_snoc {M : Nat} : ∀ (l : List UInt8) (acc v : Nat) (c : UInt8), Lib.parseUintM M acc l = .ok v → Lib.parseUintM M acc (l ++ [c]) = Lib.parseUintM M v [c]
  | [], acc, v, c, h => by
    simp only [Lib.parseUintM, Lib.NumEnd.ok.injEq] at h
    subst h; rfl
  | d :: r, acc, v, c, h => by
    rw [List.cons_append]
    conv => lhs; unfold Lib.parseUintM
    unfold Lib.parseUintM at h
    split at h
    · rename_i h1
      rw [if_pos h1]
      split at h
      · cases h
      · rename_i h2
        rw [if_neg h2]
        split at h
        · cases h
        · rename_i h3
          rw [if_neg h3]
          exact parse_snoc r _ v c h
    · cases h
theorem parse_dec (u : Nat) (h : u ≤ 1000000000000000) : Lib.parseUintM (2 ^ 64 - 1) 0 (Lib.decDigits u) = .ok u := by
  induction u using Nat.strongRecOn with
  | _ u ih =>
    by_cases hs : u < 10
    · have := dig_toNat u
      rw [Nat.mod_eq_of_lt hs] at this
      rw [Lib.decDigits, dif_pos hs]
      unfold Lib.parseUintM
      rw [this, if_pos (by omega), if_neg (by omega), if_neg (by omega)]
      unfold Lib.parseUintM
      congr 1; omega
    · rw [Lib.decDigits, dif_neg hs, parse_snoc _ _ _ _ (ih (u / 10) (by omega) (by omega))]
      unfold Lib.parseUintM
      rw [dig_toNat, if_pos (by omega), if_neg (by omega), if_neg (by omega)]
      unfold Lib.parseUintM
      congr 1; omega
theorem parse_itoa {n : Int} (h0 : -1000000000000000 ≤ n) (h1 : n ≤ 1000000000000000) : Lib.parseIntB 64 (Lib.itoa n) = .ok n := by
  unfold Lib.itoa
  by_cases h : n < 0
  · rw [if_pos h]
    obtain ⟨c, r, e, _, _⟩ := dec_head n.natAbs
    have hp := parse_dec n.natAbs (by omega)
    simp only [Lib.parseIntB]
    rw [if_pos (by right; rfl)]
    unfold Lib.parseUintB
    rw [if_neg (by rw [e]; simp), hp]
    have e45 : ((45 : UInt8).toNat = 45) := rfl
    simp only [e45, not_true, false_and, if_false, true_and]
    rw [if_neg (by omega), if_pos trivial]
    congr 1; omega
  · rw [if_neg h]
    obtain ⟨c, r, e, hc1, hc2⟩ := dec_head n.toNat
    have hp := parse_dec n.toNat (by omega)
    rw [e] at hp ⊢
    simp only [Lib.parseIntB]
    rw [if_neg (by omega)]
    unfold Lib.parseUintB
    rw [if_neg (by simp), hp]
    have e45 : ¬ c.toNat = 45 := by omega
    simp only [e45, not_false_eq_true, true_and, false_and, if_false]
    rw [if_neg (by omega)]
    congr 1; omega

/-- What ReadDecimal answers: the number, and whether the text is its numeral and it is not too great. -/
def rdOk (l : List UInt8) : Bool := decide (1 ≤ l.length) && (decide (l.length ≤ 17) && (decide (-1000000000000000 ≤ vI l) && (decide (vI l ≤ 1000000000000000) && decide (Lib.itoa (vI l) = l))))
def rdN (l : List UInt8) : Int := if rdOk l then vI l else 0
theorem itoa_pos (n : Int) : 1 ≤ (Lib.itoa n).length := by
  unfold Lib.itoa
  split
  · simp
  · rw [Lib.decDigits_length]; exact Lib.nDigits_pos _
theorem nDig_le : ∀ (k u : Nat), u < 10 ^ (k + 1) → Lib.nDigits u ≤ k + 1
  | 0, u, h => by rw [Lib.nDigits_small (by simpa using h)]; omega
  | k + 1, u, h => by
    by_cases hs : u < 10
    · rw [Lib.nDigits_small hs]; omega
    · rw [Lib.nDigits_big hs]
      have := nDig_le k (u / 10) (by rw [Nat.pow_succ] at h; omega)
      omega
theorem itoa_len {n : Int} (h0 : -1000000000000000 ≤ n) (h1 : n ≤ 1000000000000000) : (Lib.itoa n).length ≤ 17 := by
  unfold Lib.itoa
  split
  · rw [List.length_cons, Lib.decDigits_length]
    have := nDig_le 15 n.natAbs (by omega)
    omega
  · rw [Lib.decDigits_length]
    have := nDig_le 15 n.toNat (by omega)
    omega
theorem rd_parts {l : List UInt8} (h : rdOk l = true) : (1 ≤ l.length ∧ l.length ≤ 17) ∧ (-1000000000000000 ≤ vI l ∧ vI l ≤ 1000000000000000) ∧ Lib.itoa (vI l) = l := by
  simp only [rdOk, Bool.and_eq_true, decide_eq_true_eq] at h
  exact ⟨⟨h.1, h.2.1⟩, ⟨h.2.2.1, h.2.2.2.1⟩, h.2.2.2.2⟩
theorem rd_of {l : List UInt8} {n : Int} (h0 : -1000000000000000 ≤ n) (h1 : n ≤ 1000000000000000) (h : Lib.itoa n = l) : rdOk l = true ∧ rdN l = n := by
  have e : vI l = n := by rw [← h, vI_itoa]
  have hp := itoa_pos n
  have hl := itoa_len h0 h1
  rw [h] at hp hl
  have hk : rdOk l = true := by simp [rdOk, e, h0, h1, h, hp, hl]
  exact ⟨hk, by rw [rdN, if_pos hk, e]⟩
theorem rd_no {l : List UInt8} (h : rdOk l = false) : rdN l = 0 := by rw [rdN, h]; rfl
/-- A text whose numeral is another number's, or too great, or none, is no number's. -/
theorem rd_parse {l : List UInt8} (h : rdOk l = true) : Lib.parseIntB 64 l = .ok (vI l) := by
  obtain ⟨_, ⟨h0, h1⟩, h2⟩ := rd_parts h
  have := parse_itoa h0 h1
  rwa [h2] at this
theorem rd_bad {l : List UInt8} (h : ∀ v, Lib.parseIntB 64 l ≠ .ok v) : rdOk l = false := by
  cases hk : rdOk l
  · rfl
  · exact absurd (rd_parse hk) (h _)
theorem rd_bad_ok {l : List UInt8} {v : Int} (h : Lib.parseIntB 64 l = .ok v) (hb : ¬ (-1000000000000000 ≤ v ∧ v ≤ 1000000000000000 ∧ Lib.itoa v = l)) : rdOk l = false := by
  cases hk : rdOk l
  · rfl
  · have e := rd_parse hk
    rw [h] at e
    injection e with e
    obtain ⟨_, ⟨h0, h1⟩, h2⟩ := rd_parts hk
    rw [← e] at h0 h1 h2
    exact absurd ⟨h0, h1, h2⟩ hb
theorem rd_len {l : List UInt8} (h : ¬ (1 ≤ l.length ∧ l.length ≤ 17)) : rdOk l = false := by
  cases hk : rdOk l
  · rfl
  · exact absurd (rd_parts hk).1 h
theorem rd_not {l : List UInt8} (h : ¬ (-1000000000000000 ≤ vI l ∧ vI l ≤ 1000000000000000 ∧ Lib.itoa (vI l) = l)) : rdOk l = false := by
  cases hk : rdOk l
  · rfl
  · obtain ⟨_, ⟨h0, h1⟩, h2⟩ := rd_parts hk
    exact absurd ⟨h0, h1, h2⟩ h
end Go.Proofs.YtncmpbgekmaoeaaDoor
