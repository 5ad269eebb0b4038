/- How great sums, products, quotients and roots of floats are, and where they are exact. No conditions but those bounds. -/
import Derived.Test.YtepanenjhfmoiaaRootB
namespace Go.Fl
open Ieee

/-- 'm * 2 ^ e' is at most 2 to the power of E - 1023. -/
def atMost (E : Nat) (m : Nat) (e : Int) : Prop := m = 0 ∨ (0 ≤ (E : Int) - 1023 - e ∧ m ≤ 2 ^ ((E : Int) - 1023 - e).toNat)

theorem cut_le' (neg : Bool) (n d L : Nat) (h : n ≤ 2 ^ (L + d)) : Toward.even.cut neg n d ≤ 2 ^ L := by
  rcases Nat.lt_or_eq_of_le h with h | h
  · exact cut_le neg n d L h
  · subst h
    unfold Toward.cut
    simp only [Nat.log2_two_pow]
    rw [Nat.min_eq_left (by omega), Nat.shiftLeft_eq, Nat.one_mul, Nat.pow_add, Nat.mul_div_cancel _ (Nat.two_pow_pos d), Nat.mul_mod_left]
    have h2 : (2 ^ d == 0) = false := by have := Nat.two_pow_pos d; simp only [beq_eq_false_iff_ne]; omega
    simp [h2]

theorem encode_atMost (E : Nat) (neg : Bool) (m : Nat) (e : Int) (hE : 1 ≤ E) (h : atMost E m e) : FloatKind.f64.encode (.number neg m e) % 9223372036854775808 ≤ E * 4503599627370496 := by
  have e1 : FloatKind.f64.encode (.number neg m e) = FloatKind.f64.format.nearest neg m e := rfl
  rw [e1]
  by_cases h0 : m = 0
  · subst h0; rw [nearest_zero, word64_rung _ _ (Nat.zero_le _)]; exact Nat.zero_le _
  · obtain ⟨hk, hm⟩ := h.resolve_left h0
    unfold Format.nearest
    rw [if_neg h0]
    simp only []
    rw [frac64, least64, binade64, inf64, word64_rung _ _ (Nat.min_le_right _ _)]
    refine Nat.le_trans (Nat.min_le_left _ _) ?_
    obtain ⟨k, hk'⟩ := Int.eq_ofNat_of_zero_le hk
    have hkn : ((E : Int) - 1023 - e).toNat = k := by omega
    rw [hkn] at hm
    have hl : m.log2 ≤ k := by
      have := Nat.log2_self_le h0
      have h2 : 2 ^ m.log2 ≤ 2 ^ k := Nat.le_trans this hm
      exact (Nat.pow_le_pow_iff_right (by omega)).1 h2
    have hlt := Nat.lt_log2_self (n := m)
    rw [Nat.shiftLeft_eq]
    by_cases hc : e + (m.log2 : Int) - (52 : Nat) ≤ -1074
    · have h1 : max (e + (m.log2 : Int) - (52 : Nat)) (-1074) = -1074 := by omega
      rw [h1]
      have hz : ((-1074 - (-1074 : Int)).toNat) * 4503599627370496 = 0 := by decide
      rw [hz, Nat.zero_add]
      by_cases hc2 : e + (m.log2 : Int) + 1 ≤ -1022
      · have hx : m * 2 ^ (e - -1074).toNat ≤ 2 ^ (52 + (-1074 - e).toNat) := by
          calc m * 2 ^ (e - -1074).toNat ≤ 2 ^ (m.log2 + 1) * 2 ^ (e - -1074).toNat := Nat.mul_le_mul_right _ (Nat.le_of_lt hlt)
            _ = 2 ^ (m.log2 + 1 + (e - -1074).toNat) := (Nat.pow_add 2 _ _).symm
            _ ≤ _ := Nat.pow_le_pow_right (by omega) (by omega)
        have := cut_le' neg _ _ 52 hx
        have h52 : (2 : Nat) ^ 52 = 4503599627370496 := by decide
        rw [h52] at this
        omega
      · -- the first digit stands at -1022 just
        have hE2 : 1 ≤ E := hE
        have hx : m * 2 ^ (e - -1074).toNat ≤ 2 ^ (53 + (-1074 - e).toNat) := by
          calc m * 2 ^ (e - -1074).toNat ≤ 2 ^ (m.log2 + 1) * 2 ^ (e - -1074).toNat := Nat.mul_le_mul_right _ (Nat.le_of_lt hlt)
            _ = 2 ^ (m.log2 + 1 + (e - -1074).toNat) := (Nat.pow_add 2 _ _).symm
            _ ≤ _ := Nat.pow_le_pow_right (by omega) (by omega)
        by_cases hlk : m.log2 = k
        · have hx2 : m * 2 ^ (e - -1074).toNat ≤ 2 ^ (52 + (-1074 - e).toNat) := by
            calc m * 2 ^ (e - -1074).toNat ≤ 2 ^ k * 2 ^ (e - -1074).toNat := Nat.mul_le_mul_right _ hm
              _ = 2 ^ (k + (e - -1074).toNat) := (Nat.pow_add 2 _ _).symm
              _ ≤ _ := Nat.pow_le_pow_right (by omega) (by omega)
          have := cut_le' neg _ _ 52 hx2
          have h52 : (2 : Nat) ^ 52 = 4503599627370496 := by decide
          rw [h52] at this
          omega
        · have := cut_le' neg _ _ 53 hx
          have h53 : (2 : Nat) ^ 53 = 9007199254740992 := by decide
          rw [h53] at this
          have : 2 ≤ E := by omega
          omega
    · have h1 : max (e + (m.log2 : Int) - (52 : Nat)) (-1074) = e + m.log2 - 52 := by omega
      rw [h1]
      obtain ⟨r, hr⟩ := Int.eq_ofNat_of_zero_le (show 0 ≤ e + (m.log2 : Int) - 52 - (-1074) by omega)
      have hr' : (e + (m.log2 : Int) - 52 - (-1074)).toNat = r := by omega
      rw [hr']
      by_cases hlk : m.log2 = k
      · have hx : m * 2 ^ (e - (e + (m.log2 : Int) - 52)).toNat ≤ 2 ^ (52 + (e + (m.log2 : Int) - 52 - e).toNat) := by
          calc m * 2 ^ (e - (e + (m.log2 : Int) - 52)).toNat ≤ 2 ^ k * 2 ^ (e - (e + (m.log2 : Int) - 52)).toNat := Nat.mul_le_mul_right _ hm
            _ = 2 ^ (k + (e - (e + (m.log2 : Int) - 52)).toNat) := (Nat.pow_add 2 _ _).symm
            _ ≤ _ := Nat.pow_le_pow_right (by omega) (by omega)
        have := cut_le' neg _ _ 52 hx
        have h52 : (2 : Nat) ^ 52 = 4503599627370496 := by decide
        rw [h52] at this
        generalize Toward.even.cut neg _ _ = c at *
        have : r + 1 ≤ E := by omega
        have := Nat.mul_le_mul_right 4503599627370496 this
        omega
      · have hx : m * 2 ^ (e - (e + (m.log2 : Int) - 52)).toNat ≤ 2 ^ (53 + (e + (m.log2 : Int) - 52 - e).toNat) := by
          calc m * 2 ^ (e - (e + (m.log2 : Int) - 52)).toNat ≤ 2 ^ (m.log2 + 1) * 2 ^ (e - (e + (m.log2 : Int) - 52)).toNat := Nat.mul_le_mul_right _ (Nat.le_of_lt hlt)
            _ = 2 ^ (m.log2 + 1 + (e - (e + (m.log2 : Int) - 52)).toNat) := (Nat.pow_add 2 _ _).symm
            _ ≤ _ := Nat.pow_le_pow_right (by omega) (by omega)
        have := cut_le' neg _ _ 53 hx
        have h53 : (2 : Nat) ^ 53 = 9007199254740992 := by decide
        rw [h53] at this
        generalize Toward.even.cut neg _ _ = c at *
        have : r + 2 ≤ E := by omega
        have := Nat.mul_le_mul_right 4503599627370496 this
        omega

theorem bdd_atMost (E : Nat) (neg : Bool) (m : Nat) (e : Int) (hE : 1 ≤ E) (h : atMost E m e) : bdd E (FloatKind.f64.encode (.number neg m e)) := .inr (encode_atMost E neg m e hE h)

theorem bdd_mono {E F x : Nat} (h : bdd E x) (hEF : E ≤ F) : bdd F x := by
  rcases h with h | h
  · exact .inl h
  · exact .inr (Nat.le_trans h (Nat.mul_le_mul_right _ hEF))

theorem bdd_num {E x : Nat} (h : bdd E x) (hE : 1 ≤ E) (hE2 : E ≤ 2046) : isNan .f64 x = true ∨ ∃ s m e, FloatKind.f64.decode x = .number s m e ∧ atMost E m e ∧ -1074 ≤ e := by
  rcases h with h | h
  · exact .inl h
  · right
    rw [read64]
    generalize x % 9223372036854775808 = r at *
    by_cases h1 : r < 4503599627370496
    · rw [if_pos h1]
      refine ⟨_, _, _, rfl, .inr ⟨by omega, ?_⟩, by omega⟩
      refine Nat.le_trans (m := 2 ^ 52) (by rw [show (2 : Nat) ^ 52 = 4503599627370496 by decide]; omega) ?_
      exact Nat.pow_le_pow_right (by omega) (by omega)
    · rw [if_neg h1, if_pos (by omega)]
      have hq : r / 4503599627370496 ≤ E := by
        have := Nat.div_le_div_right (c := 4503599627370496) h
        rwa [Nat.mul_div_cancel _ (by omega)] at this
      have hq1 : 1 ≤ r / 4503599627370496 := by omega
      refine ⟨_, _, _, rfl, .inr ⟨by omega, ?_⟩, by omega⟩
      by_cases he : r / 4503599627370496 = E
      · have hm : r % 4503599627370496 = 0 := by omega
        rw [hm, Nat.add_zero]
        have h52 : (2 : Nat) ^ 52 = 4503599627370496 := by decide
        rw [← h52]
        exact Nat.pow_le_pow_right (by omega) (by omega)
      · refine Nat.le_trans (m := 2 ^ 53) (by rw [show (2 : Nat) ^ 53 = 9007199254740992 by decide]; omega) ?_
        exact Nat.pow_le_pow_right (by omega) (by omega)

theorem atMost_shift {E m : Nat} {e base : Int} (h : atMost E m e) (hb : base ≤ e) (hE : 0 ≤ (E : Int) - 1023 - base) : m <<< (e - base).toNat ≤ 2 ^ ((E : Int) - 1023 - base).toNat := by
  rw [Nat.shiftLeft_eq]
  rcases h with rfl | ⟨h1, h2⟩
  · rw [Nat.zero_mul]; exact Nat.zero_le _
  · calc m * 2 ^ (e - base).toNat ≤ 2 ^ ((E : Int) - 1023 - e).toNat * 2 ^ (e - base).toNat := Nat.mul_le_mul_right _ h2
      _ = 2 ^ (((E : Int) - 1023 - e).toNat + (e - base).toNat) := (Nat.pow_add 2 _ _).symm
      _ = _ := by congr 1; omega

theorem natAbs_signed (s : Bool) (m u : Nat) : (signed s m u).natAbs = m <<< u := by
  unfold signed; split
  · rw [Int.natAbs_neg, Int.natAbs_natCast]
  · rw [Int.natAbs_natCast]

theorem sum_atMost {E m n : Nat} {s t : Bool} {i j : Int} (hx : atMost E m i) (hy : atMost E n j) : atMost (E + 1) (signed s m (i - min i j).toNat + signed t n (j - min i j).toNat).natAbs (min i j) := by
  by_cases h0 : m = 0 ∧ n = 0
  · obtain ⟨rfl, rfl⟩ := h0
    left; simp [signed]
  · have hE : 0 ≤ (E : Int) - 1023 - min i j := by
      rcases hx with rfl | ⟨h1, _⟩
      · rcases hy with rfl | ⟨h1, _⟩
        · exact absurd ⟨rfl, rfl⟩ h0
        · omega
      · omega
    have h1 := atMost_shift hx (Int.min_le_left i j) hE
    have h2 := atMost_shift hy (Int.min_le_right i j) hE
    refine .inr ⟨by omega, ?_⟩
    have h3 := Int.natAbs_add_le (signed s m (i - min i j).toNat) (signed t n (j - min i j).toNat)
    rw [natAbs_signed, natAbs_signed] at h3
    have e1 : (((E + 1 : Nat) : Int) - 1023 - min i j).toNat = ((E : Int) - 1023 - min i j).toNat + 1 := by omega
    rw [e1, Nat.pow_succ]
    omega

theorem fop_nan_l (op : BinOp) {x : Nat} (y : Nat) (h : isNan .f64 x = true) : fop op .f64 x y = nanW .f64 := by unfold fop; rw [floatBits_nan_l op y h]; rfl
theorem fop_nan_r (op : BinOp) (x : Nat) {y : Nat} (h : isNan .f64 y = true) : fop op .f64 x y = nanW .f64 := by unfold fop; rw [floatBits_nan_r op x h]; rfl

theorem fadd_num {x y : Nat} {s t : Bool} {m n : Nat} {i j : Int} (hx : FloatKind.f64.decode x = .number s m i) (hy : FloatKind.f64.decode y = .number t n j) :
    fop .add .f64 x y = FloatKind.f64.encode (.number (if signed s m (i - min i j).toNat + signed t n (j - min i j).toNat = 0 then s && t else signed s m (i - min i j).toNat + signed t n (j - min i j).toNat < 0) (signed s m (i - min i j).toNat + signed t n (j - min i j).toNat).natAbs (min i j)) := by
  have hx' : FloatKind.f64.format.read x = .number s m i := hx
  have hy' : FloatKind.f64.format.read y = .number t n j := hy
  unfold fop floatBits Format.add
  simp only [hx', hy', Datum.sum, Option.map_some, Option.getD_some]
  rfl
theorem fsub_num {x y : Nat} {s t : Bool} {m n : Nat} {i j : Int} (hx : FloatKind.f64.decode x = .number s m i) (hy : FloatKind.f64.decode y = .number t n j) :
    fop .sub .f64 x y = FloatKind.f64.encode (.number (if signed s m (i - min i j).toNat + signed (!t) n (j - min i j).toNat = 0 then s && !t else signed s m (i - min i j).toNat + signed (!t) n (j - min i j).toNat < 0) (signed s m (i - min i j).toNat + signed (!t) n (j - min i j).toNat).natAbs (min i j)) := by
  have hx' : FloatKind.f64.format.read x = .number s m i := hx
  have hy' : FloatKind.f64.format.read y = .number t n j := hy
  unfold fop floatBits Format.sub
  simp only [hx', hy', Datum.sum, Datum.opposite, Option.map_some, Option.getD_some]
  rfl
theorem fmul_num {x y : Nat} {s t : Bool} {m n : Nat} {i j : Int} (hx : FloatKind.f64.decode x = .number s m i) (hy : FloatKind.f64.decode y = .number t n j) :
    fop .mul .f64 x y = FloatKind.f64.encode (.number (s ^^ t) (m * n) (i + j)) := by
  have hx' : FloatKind.f64.format.read x = .number s m i := hx
  have hy' : FloatKind.f64.format.read y = .number t n j := hy
  unfold fop floatBits Format.mul
  simp only [hx', hy', Datum.product, Option.map_some, Option.getD_some]
  rfl
theorem fquo_num {x y : Nat} {s t : Bool} {m n : Nat} {i j : Int} (hx : FloatKind.f64.decode x = .number s m i) (hy : FloatKind.f64.decode y = .number t n j) (hn : n ≠ 0) :
    fop .quo .f64 x y = FloatKind.f64.encode (.number (s ^^ t) (2 * ((m <<< (54 + n.log2 - m.log2)) / n) + ((m <<< (54 + n.log2 - m.log2)) % n != 0).toNat) (i - j - (54 + n.log2 - m.log2 : Nat) - 1)) := by
  have hx' : FloatKind.f64.format.read x = .number s m i := hx
  have hy' : FloatKind.f64.format.read y = .number t n j := hy
  unfold fop floatBits Format.div
  simp only [hx', hy', Datum.quotient, if_neg hn, Option.map_some, Option.getD_some]
  rfl

theorem bdd_add {E x y : Nat} (hx : bdd E x) (hy : bdd E y) (hE : 1 ≤ E) (hE2 : E ≤ 2046) : bdd (E + 1) (fop .add .f64 x y) := by
  rcases bdd_num hx hE hE2 with h | ⟨s, m, i, hdx, hax, _⟩
  · rw [fop_nan_l _ _ h]; exact bdd_nan _
  rcases bdd_num hy hE hE2 with h | ⟨t, n, j, hdy, hay, _⟩
  · rw [fop_nan_r _ _ h]; exact bdd_nan _
  rw [fadd_num hdx hdy]
  exact bdd_atMost _ _ _ _ (by omega) (sum_atMost hax hay)
theorem bdd_sub {E x y : Nat} (hx : bdd E x) (hy : bdd E y) (hE : 1 ≤ E) (hE2 : E ≤ 2046) : bdd (E + 1) (fop .sub .f64 x y) := by
  rcases bdd_num hx hE hE2 with h | ⟨s, m, i, hdx, hax, _⟩
  · rw [fop_nan_l _ _ h]; exact bdd_nan _
  rcases bdd_num hy hE hE2 with h | ⟨t, n, j, hdy, hay, _⟩
  · rw [fop_nan_r _ _ h]; exact bdd_nan _
  rw [fsub_num hdx hdy]
  exact bdd_atMost _ _ _ _ (by omega) (sum_atMost hax hay)
theorem bdd_mul {E F x y : Nat} (G : Nat) (hx : bdd E x) (hy : bdd F y) (hE : 1 ≤ E) (hE2 : E ≤ 2046) (hF : 1 ≤ F) (hF2 : F ≤ 2046) (hG : E + F ≤ G + 1023) (hG1 : 1 ≤ G) : bdd G (fop .mul .f64 x y) := by
  rcases bdd_num hx hE hE2 with h | ⟨s, m, i, hdx, hax, _⟩
  · rw [fop_nan_l _ _ h]; exact bdd_nan _
  rcases bdd_num hy hF hF2 with h | ⟨t, n, j, hdy, hay, _⟩
  · rw [fop_nan_r _ _ h]; exact bdd_nan _
  rw [fmul_num hdx hdy]
  refine bdd_atMost _ _ _ _ hG1 ?_
  rcases hax with rfl | ⟨h1, h2⟩
  · exact .inl (Nat.zero_mul _)
  rcases hay with rfl | ⟨h3, h4⟩
  · exact .inl (Nat.mul_zero _)
  refine .inr ⟨by omega, ?_⟩
  calc m * n ≤ 2 ^ ((E : Int) - 1023 - i).toNat * 2 ^ ((F : Int) - 1023 - j).toNat := Nat.mul_le_mul h2 h4
    _ = 2 ^ (((E : Int) - 1023 - i).toNat + ((F : Int) - 1023 - j).toNat) := (Nat.pow_add 2 _ _).symm
    _ ≤ _ := Nat.pow_le_pow_right (by omega) (by omega)

/-! ### Bounds from below -/
/-- 'x' is a not-a-number, or of at least 2 to the power of D - 1023. -/
def big (D : Nat) (x : Nat) : Prop := isNan .f64 x = true ∨ D * 4503599627370496 ≤ x % 9223372036854775808
/-- 'x' is a not-a-number, or bears no sign. -/
def nn (x : Nat) : Prop := isNan .f64 x = true ∨ x / 9223372036854775808 % 2 = 0

theorem big_read {D x : Nat} (h : big D x) (hD : 1 ≤ D) : isNan .f64 x = true ∨ (∃ s, FloatKind.f64.decode x = .infinity s ∧ s = (x / 9223372036854775808 % 2 == 1)) ∨ ∃ s m e, FloatKind.f64.decode x = .number s m e ∧ s = (x / 9223372036854775808 % 2 == 1) ∧ m ≠ 0 ∧ (D : Int) ≤ e + m.log2 + 1023 ∧ m.log2 = 52 := by
  rcases h with h | h
  · exact .inl h
  · by_cases hn : isNan .f64 x = true
    · exact .inl hn
    · right
      rw [isNan64] at hn
      simp only [decide_eq_true_eq] at hn
      rw [read64]
      generalize x % 9223372036854775808 = r at *
      rw [if_neg (by omega)]
      by_cases h2 : r < 9218868437227405312
      · right
        rw [if_pos h2]
        have hl : (4503599627370496 + r % 4503599627370496).log2 = 52 := by
          refine (Nat.log2_eq_iff (by omega)).2 ⟨?_, ?_⟩
          · rw [show (2 : Nat) ^ 52 = 4503599627370496 by decide]; omega
          · rw [show (2 : Nat) ^ (52 + 1) = 9007199254740992 by decide]; omega
        refine ⟨_, _, _, rfl, rfl, by omega, ?_, hl⟩
        rw [hl]
        have : D ≤ r / 4503599627370496 := by
          have := Nat.div_le_div_right (c := 4503599627370496) h
          rwa [Nat.mul_div_cancel _ (by omega)] at this
        omega
      · left
        rw [if_neg h2, if_pos (by omega)]
        exact ⟨_, rfl, rfl⟩

theorem cut_ge (neg : Bool) (n d L : Nat) (h : 2 ^ (L + d) ≤ n) : 2 ^ L ≤ Toward.even.cut neg n d := by
  unfold Toward.cut
  simp only []
  have hn : n ≠ 0 := by have := Nat.two_pow_pos (L + d); omega
  have hd : d ≤ n.log2 := by
    have h1 := Nat.lt_log2_self (n := n)
    have h2 : 2 ^ (L + d) < 2 ^ (n.log2 + 1) := Nat.lt_of_le_of_lt h h1
    have := (Nat.pow_lt_pow_iff_right (by omega)).1 h2
    omega
  rw [Nat.min_eq_left (by omega), Nat.shiftLeft_eq, Nat.one_mul]
  refine Nat.le_trans ?_ (Nat.le_add_right _ _)
  rw [Nat.le_div_iff_mul_le (Nat.two_pow_pos d), ← Nat.pow_add]
  exact h

theorem encode_big (D : Nat) (neg : Bool) (m : Nat) (e : Int) (hD : 1 ≤ D) (hD2 : D ≤ 2047) (hm : m ≠ 0) (h : (D : Int) ≤ e + m.log2 + 1023) : D * 4503599627370496 ≤ FloatKind.f64.encode (.number neg m e) % 9223372036854775808 := by
  have e1 : FloatKind.f64.encode (.number neg m e) = FloatKind.f64.format.nearest neg m e := rfl
  rw [e1]
  unfold Format.nearest
  rw [if_neg hm]
  simp only []
  rw [frac64, least64, binade64, inf64, word64_rung _ _ (Nat.min_le_right _ _)]
  refine Nat.le_min.2 ⟨?_, by omega⟩
  have h1 : max (e + (m.log2 : Int) - (52 : Nat)) (-1074) = e + m.log2 - 52 := by omega
  rw [h1, Nat.shiftLeft_eq]
  obtain ⟨r, hr⟩ := Int.eq_ofNat_of_zero_le (show 0 ≤ e + (m.log2 : Int) - 52 - (-1074) by omega)
  have hr' : (e + (m.log2 : Int) - 52 - (-1074)).toNat = r := by omega
  rw [hr']
  have hx : 2 ^ (52 + (e + (m.log2 : Int) - 52 - e).toNat) ≤ m * 2 ^ (e - (e + (m.log2 : Int) - 52)).toNat := by
    calc 2 ^ (52 + (e + (m.log2 : Int) - 52 - e).toNat) = 2 ^ m.log2 * 2 ^ (e - (e + (m.log2 : Int) - 52)).toNat := by rw [← Nat.pow_add]; congr 1; omega
      _ ≤ _ := Nat.mul_le_mul_right _ (Nat.log2_self_le hm)
  have := cut_ge neg _ _ 52 hx
  rw [show (2 : Nat) ^ 52 = 4503599627370496 by decide] at this
  generalize Toward.even.cut neg _ _ = c at *
  have : D ≤ r + 1 := by omega
  have := Nat.mul_le_mul_right 4503599627370496 this
  omega

theorem bdd_div {E D x y : Nat} (G : Nat) (hx : bdd E x) (hy : big D y) (hE : 1 ≤ E) (hE2 : E ≤ 2046) (hD : 1 ≤ D) (hG : E + 1023 ≤ G + D) (hG1 : 1 ≤ G) : bdd G (fop .quo .f64 x y) := by
  rcases bdd_num hx hE hE2 with h | ⟨s, m, i, hdx, hax, _⟩
  · rw [fop_nan_l _ _ h]; exact bdd_nan _
  rcases big_read hy hD with h | ⟨t, hdy, _⟩ | ⟨t, n, j, hdy, _, hn, hj, hl⟩
  · rw [fop_nan_r _ _ h]; exact bdd_nan _
  · have hx' : FloatKind.f64.format.read x = .number s m i := hdx
    have hy' : FloatKind.f64.format.read y = .infinity t := hdy
    unfold fop floatBits Format.div
    simp only [hx', hy', Datum.quotient, Option.map_some, Option.getD_some]
    exact bdd_atMost G (s ^^ t) 0 0 hG1 (.inl rfl)
  · rw [fquo_num hdx hdy hn]
    refine bdd_atMost _ _ _ _ hG1 ?_
    rcases hax with rfl | ⟨h1, h2⟩
    · left; simp [Nat.shiftLeft_eq]
    have hm0 : m = 0 ∨ m ≠ 0 := by omega
    rcases hm0 with rfl | hm0
    · left; simp [Nat.shiftLeft_eq]
    generalize hmore : 54 + n.log2 - m.log2 = more
    rw [Nat.shiftLeft_eq]
    obtain ⟨k, hk⟩ := Int.eq_ofNat_of_zero_le h1
    have hk' : ((E : Int) - 1023 - i).toNat = k := by omega
    rw [hk'] at h2
    have hlm : m.log2 ≤ k := by
      have h3 : 2 ^ m.log2 ≤ 2 ^ k := Nat.le_trans (Nat.log2_self_le hm0) h2
      exact (Nat.pow_le_pow_iff_right (by omega)).1 h3
    -- the quotient is at most 2 ^ K
    have hK : n.log2 ≤ k + more := by omega
    have hq : m * 2 ^ more ≤ 2 ^ (k + more - n.log2) * n := by
      calc m * 2 ^ more ≤ 2 ^ k * 2 ^ more := Nat.mul_le_mul_right _ h2
        _ = 2 ^ (k + more - n.log2) * 2 ^ n.log2 := by rw [← Nat.pow_add, ← Nat.pow_add]; congr 1; omega
        _ ≤ _ := Nat.mul_le_mul_left _ (Nat.log2_self_le hn)
    have hnp : 0 < n := by omega
    have hmant : 2 * (m * 2 ^ more / n) + (m * 2 ^ more % n != 0).toNat ≤ 2 ^ (k + more - n.log2 + 1) := by
      rw [Nat.pow_succ]
      generalize 2 ^ (k + more - n.log2) = A at *
      generalize m * 2 ^ more = B at *
      by_cases hz : B % n = 0
      · have : B / n ≤ A := (Nat.div_le_iff_le_mul_add_pred hnp).2 (by rw [Nat.mul_comm n A]; omega)
        rw [hz]; simp; omega
      · have : B / n < A := by
          rw [Nat.div_lt_iff_lt_mul hnp]
          rcases Nat.lt_or_eq_of_le hq with h | h
          · exact h
          · exfalso; apply hz; rw [h]; exact Nat.mul_mod_left _ _
        have hb : ∀ b : Bool, b.toNat ≤ 1 := fun b => by cases b <;> simp
        have := hb (B % n != 0)
        omega
    refine .inr ⟨by omega, Nat.le_trans hmant ?_⟩
    exact Nat.pow_le_pow_right (by omega) (by omega)

theorem word_sign (neg : Bool) (r : Nat) (h : r ≤ 9218868437227405312) : FloatKind.f64.format.word neg r / 9223372036854775808 % 2 = neg.toNat := by
  rw [word64]; cases neg
  · simp; omega
  · simp; omega
theorem encode_sign (neg : Bool) (m : Nat) (e : Int) : FloatKind.f64.encode (.number neg m e) / 9223372036854775808 % 2 = neg.toNat := by
  have e1 : FloatKind.f64.encode (.number neg m e) = FloatKind.f64.format.nearest neg m e := rfl
  obtain ⟨r, hr, _, h2⟩ := nearest_rung FloatKind.f64.format neg m e
  rw [e1, hr]
  exact word_sign _ _ (by rw [← inf64]; exact h2)

/-- What a number that bears no sign stands for. -/
theorem nn_read {x : Nat} (h : nn x) : isNan .f64 x = true ∨ FloatKind.f64.decode x = .infinity false ∨ ∃ m e, FloatKind.f64.decode x = .number false m e := by
  rcases h with h | h
  · exact .inl h
  · by_cases hn : isNan .f64 x = true
    · exact .inl hn
    · right
      rw [isNan64] at hn
      simp only [decide_eq_true_eq] at hn
      have hs : (x / 9223372036854775808 % 2 == 1) = false := by rw [h]; rfl
      rw [read64, hs]
      by_cases h1 : x % 9223372036854775808 < 4503599627370496
      · right; rw [if_pos h1]; exact ⟨_, _, rfl⟩
      · rw [if_neg h1]
        by_cases h2 : x % 9223372036854775808 < 9218868437227405312
        · right; rw [if_pos h2]; exact ⟨_, _, rfl⟩
        · left; rw [if_neg h2, if_pos (by omega)]

theorem big_inf (D : Nat) (hD2 : D ≤ 2047) : big D (FloatKind.f64.encode (.infinity false)) := .inr (by
  have : FloatKind.f64.encode (.infinity false) = 9218868437227405312 := by decide +kernel
  rw [this]; omega)

/-- A sum of two numbers that bear no sign, the second one at least so great. -/
theorem big_add {D x y : Nat} (hx : nn x) (hy : nn y) (hb : big D y) (hD : 1 ≤ D) (hD2 : D ≤ 2047) : big D (fop .add .f64 x y) := by
  rcases nn_read hx with h | h | ⟨m, i, hdx⟩
  · rw [fop_nan_l _ _ h]; exact .inl (isNan_nanW _)
  · rcases nn_read hy with h' | h' | ⟨n, j, hdy⟩
    · rw [fop_nan_r _ _ h']; exact .inl (isNan_nanW _)
    · have hx' : FloatKind.f64.format.read x = .infinity false := h
      have hy' : FloatKind.f64.format.read y = .infinity false := h'
      unfold fop floatBits Format.add
      simp only [hx', hy', Datum.sum, Option.map_some, Option.getD_some, if_true]
      exact big_inf D hD2
    · have hx' : FloatKind.f64.format.read x = .infinity false := h
      have hy' : FloatKind.f64.format.read y = .number false n j := hdy
      unfold fop floatBits Format.add
      simp only [hx', hy', Datum.sum, Option.map_some, Option.getD_some]
      exact big_inf D hD2
  · rcases big_read hb hD with h' | ⟨t, hdy, ht⟩ | ⟨t, n, j, hdy, ht, hn, hj, hl⟩
    · rw [fop_nan_r _ _ h']; exact .inl (isNan_nanW _)
    · have ht' : t = false := by
        rcases hy with h' | h'
        · exfalso; unfold isNan at h'; rw [hdy] at h'; cases h'
        · rw [ht, h']; rfl
      subst ht'
      have hx' : FloatKind.f64.format.read x = .number false m i := hdx
      have hy' : FloatKind.f64.format.read y = .infinity false := hdy
      unfold fop floatBits Format.add
      simp only [hx', hy', Datum.sum, Option.map_some, Option.getD_some]
      exact big_inf D hD2
    · have ht' : t = false := by
        rcases hy with h' | h'
        · exfalso; unfold isNan at h'; rw [hdy] at h'; cases h'
        · rw [ht, h']; rfl
      subst ht'
      rw [fadd_num hdx hdy]
      simp only [signed, Bool.false_eq_true, if_false]
      rw [← Int.natCast_add, Int.natAbs_natCast]
      clear hx hy hb
      have hge : n <<< (j - min i j).toNat ≤ m <<< (i - min i j).toNat + n <<< (j - min i j).toNat := Nat.le_add_left _ _
      have hne : n <<< (j - min i j).toNat ≠ 0 := by
        rw [Nat.shiftLeft_eq]; exact Nat.mul_ne_zero hn (Nat.ne_of_gt (Nat.two_pow_pos _))
      have hlg := log2_shift n (j - min i j).toNat hn
      have hmin : min i j ≤ j := Int.min_le_right i j
      have hmono : (n <<< (j - min i j).toNat).log2 ≤ (m <<< (i - min i j).toNat + n <<< (j - min i j).toNat).log2 := by
        have h1 := Nat.log2_self_le hne
        have h2 := Nat.lt_log2_self (n := m <<< (i - min i j).toNat + n <<< (j - min i j).toNat)
        have h3 : 2 ^ (n <<< (j - min i j).toNat).log2 < 2 ^ ((m <<< (i - min i j).toNat + n <<< (j - min i j).toNat).log2 + 1) := Nat.lt_of_le_of_lt (Nat.le_trans h1 hge) h2
        have := (Nat.pow_lt_pow_iff_right (by omega)).1 h3
        omega
      have hne2 : m <<< (i - min i j).toNat + n <<< (j - min i j).toNat ≠ 0 := fun h => hne (Nat.eq_zero_of_add_eq_zero_left h)
      refine .inr (encode_big D _ _ _ hD hD2 hne2 ?_)
      rw [hlg] at hmono
      generalize (m <<< (i - min i j).toNat + n <<< (j - min i j).toNat).log2 = L at *
      omega

theorem fop_add_comm (x y : Nat) : fop .add .f64 x y = fop .add .f64 y x := by
  unfold fop floatBits Format.add
  simp only []
  congr 2
  cases hx : FloatKind.f64.format.read x with
  | nan s t => rw [sum_nan_l, sum_nan_r]
  | infinity s => cases hy : FloatKind.f64.format.read y with
    | nan s' t' => rfl
    | infinity s' => cases s <;> cases s' <;> rfl
    | number s' m' i' => rfl
  | number s m i => cases hy : FloatKind.f64.format.read y with
    | nan s' t' => rfl
    | infinity s' => rfl
    | number s' m' i' =>
      simp only [Datum.sum, Int.min_comm i' i, Int.add_comm (signed s' _ _), Bool.and_comm s' s]

/-- The root of a number that is no zero bears no sign. -/
theorem nn_sqrt {x : Nat} (hb : big 1 x) : nn (fsqrt x) := by
  rcases big_read hb (Nat.le_refl 1) with h | ⟨t, hd, _⟩ | ⟨t, m, e, hd, _, hm, _, _⟩
  · obtain ⟨s, t, hd⟩ := read_nan h
    unfold fsqrt Format.sqrt
    rw [hd]
    exact .inl (isNan_nanW _)
  · have hd' : FloatKind.f64.format.read x = .infinity t := hd
    unfold fsqrt Format.sqrt
    rw [hd']
    cases t with
    | true => exact .inl (isNan_nanW _)
    | false => exact .inr (by decide +kernel)
  · have hd' : FloatKind.f64.format.read x = .number t m e := hd
    unfold fsqrt Format.sqrt
    rw [hd']
    simp only [Datum.root, if_neg hm]
    cases t with
    | true => exact .inl (isNan_nanW _)
    | false => exact .inr (encode_sign false _ _)

/-! ### Where the result is exact -/
theorem cut_exact (neg : Bool) (m k : Nat) (hm : m ≠ 0) : Toward.even.cut neg (m * 2 ^ k) k = m := by
  unfold Toward.cut
  simp only []
  have hl : (m * 2 ^ k).log2 = m.log2 + k := by rw [← Nat.shiftLeft_eq]; exact log2_shift m k hm
  rw [hl, Nat.min_eq_left (by omega), Nat.shiftLeft_eq, Nat.one_mul, Nat.mul_div_cancel _ (Nat.two_pow_pos k), Nat.mul_mod_left]
  simp

theorem encode_norm (s : Bool) (m k : Nat) (e : Int) (h1 : 4503599627370496 ≤ m) (h2 : m < 9007199254740992) (h3 : -1074 ≤ e + k) (h4 : e + k ≤ 971) :
    FloatKind.f64.encode (.number s (m * 2 ^ k) e) = FloatKind.f64.format.word s ((e + k + 1074).toNat * 4503599627370496 + m) := by
  have e1 : FloatKind.f64.encode (.number s (m * 2 ^ k) e) = FloatKind.f64.format.nearest s (m * 2 ^ k) e := rfl
  have hm : m ≠ 0 := by omega
  have hl : (m * 2 ^ k).log2 = 52 + k := by
    rw [← Nat.shiftLeft_eq, log2_shift m k hm]
    have : m.log2 = 52 := (Nat.log2_eq_iff hm).2 ⟨by rw [show (2 : Nat) ^ 52 = 4503599627370496 by decide]; exact h1, by rw [show (2 : Nat) ^ (52 + 1) = 9007199254740992 by decide]; exact h2⟩
    rw [this]
  rw [e1]
  unfold Format.nearest
  rw [if_neg (Nat.mul_ne_zero hm (Nat.ne_of_gt (Nat.two_pow_pos k)))]
  simp only []
  rw [frac64, least64, binade64, inf64, hl]
  have h5 : max (e + ((52 + k : Nat) : Int) - (52 : Nat)) (-1074) = e + k := by omega
  rw [h5]
  have h6 : (e - (e + k)).toNat = 0 := by omega
  have h7 : (e + (k : Int) - e).toNat = k := by omega
  rw [h6, h7, Nat.shiftLeft_zero, cut_exact _ _ _ hm]
  have h8 : e + (k : Int) - (-1074) = e + k + 1074 := by omega
  rw [h8]
  obtain ⟨r, hr⟩ := Int.eq_ofNat_of_zero_le (show 0 ≤ e + (k : Int) + 1074 by omega)
  have hr' : (e + (k : Int) + 1074).toNat = r := by omega
  rw [hr', Nat.min_eq_left (by omega)]

/-- A normal number without a sign. -/
theorem read_norm {X : Nat} (h1 : 4503599627370496 ≤ X) (h2 : X < 9218868437227405312) : FloatKind.f64.decode X = .number false (4503599627370496 + X % 4503599627370496) (-1074 + (X / 4503599627370496 - 1 : Nat)) := by
  have hm : X % 9223372036854775808 = X := Nat.mod_eq_of_lt (by omega)
  have hs : (X / 9223372036854775808 % 2 == 1) = false := by
    have : X / 9223372036854775808 = 0 := by omega
    rw [this]; rfl
  rw [read64, hm, hs, if_neg (by omega), if_pos h2]

/-- Twice a normal number. -/
theorem double_eq {X : Nat} (h1 : 4503599627370496 ≤ X) (h2 : X + 4503599627370496 < 9218868437227405312) : fop .mul .f64 X 4611686018427387904 = X + 4503599627370496 := by
  have hd := read_norm h1 (by omega)
  have h2' : FloatKind.f64.decode 4611686018427387904 = .number false (2 ^ 52) (-51) := by decide +kernel
  rw [fmul_num hd h2']
  have e := encode_norm (false ^^ false) (4503599627370496 + X % 4503599627370496) 52 (-1074 + (X / 4503599627370496 - 1 : Nat) + -51) (by omega) (by omega) (by omega) (by omega)
  rw [e, show (false ^^ false) = false from rfl, word64]
  simp only [Bool.false_eq_true, if_false]
  omega
/-- Half a normal number. -/
theorem half_eq {X : Nat} (h1 : 9007199254740992 ≤ X) (h2 : X < 9218868437227405312) : fop .quo .f64 X 4611686018427387904 = X - 4503599627370496 := by
  have hd := read_norm (by omega) h2
  have h2' : FloatKind.f64.decode 4611686018427387904 = .number false (2 ^ 52) (-51) := by decide +kernel
  generalize hm : 4503599627370496 + X % 4503599627370496 = m at hd
  have hl : m.log2 = 52 := (Nat.log2_eq_iff (by omega)).2 ⟨by rw [show (2 : Nat) ^ 52 = 4503599627370496 by decide]; omega, by rw [show (2 : Nat) ^ (52 + 1) = 9007199254740992 by decide]; omega⟩
  rw [fquo_num hd h2' (by decide), hl, show (2 ^ 52 : Nat).log2 = 52 by decide +kernel]
  have e1 : m <<< (54 + 52 - 52) = m * 4 * 2 ^ 52 := by rw [Nat.shiftLeft_eq, Nat.mul_assoc]
  rw [e1, Nat.mul_div_cancel _ (Nat.two_pow_pos 52), Nat.mul_mod_left]
  have e2 : 2 * (m * 4) + ((0 : Nat) != 0).toNat = m * 2 ^ 3 := by simp; omega
  rw [e2]
  have e := encode_norm (false ^^ false) m 3 (-1074 + (X / 4503599627370496 - 1 : Nat) - -51 - (54 + 52 - 52 : Nat) - 1) (by omega) (by omega) (by omega) (by omega)
  rw [e, show (false ^^ false) = false from rfl, word64]
  simp only [Bool.false_eq_true, if_false]
  omega
end Go.Fl
