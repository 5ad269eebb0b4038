/- The sine in 64 bits: what it comes to, and that a float32 lies near it. No conditions. -/
import Derived.Test.YtepanenjhfmoiaaLogB
namespace Go.Fl
open Ieee

theorem zcut (neg : Bool) (n d : Nat) : Toward.zero.cut neg n d = n / 2 ^ d := by
  unfold Toward.cut
  simp only [Bool.toNat_false, Nat.add_zero]
  rw [Nat.shiftLeft_eq, Nat.one_mul]
  by_cases h : d ≤ n.log2 + 2
  · rw [Nat.min_eq_left h]
  · have h1 := Nat.lt_log2_self (n := n)
    have h2 : 2 ^ (n.log2 + 1) ≤ 2 ^ (n.log2 + 2) := Nat.pow_le_pow_right (by omega) (by omega)
    have h3 : 2 ^ (n.log2 + 1) ≤ 2 ^ d := Nat.pow_le_pow_right (by omega) (by omega)
    rw [Nat.min_eq_right (by omega), Nat.div_eq_of_lt (by omega), Nat.div_eq_of_lt (by omega)]

/-- A finite number less than 2 to the power of 52. -/
theorem read_small {y : Nat} (h : y % 9223372036854775808 < 4841369599423283200) : ∃ s m e, FloatKind.f64.decode y = .number s m e ∧ s = (y / 9223372036854775808 % 2 == 1) ∧ m < 9007199254740992 ∧ -1074 ≤ e ∧ e ≤ -1 ∧
    (y % 9223372036854775808 < 4503599627370496 ∧ m = y % 9223372036854775808 ∧ e = -1074 ∨ 4503599627370496 ≤ m ∧ y % 9223372036854775808 = (e + 1074).toNat * 4503599627370496 + m) := by
  rw [read64]
  generalize y % 9223372036854775808 = r at *
  by_cases h1 : r < 4503599627370496
  · rw [if_pos h1]; exact ⟨_, _, _, rfl, rfl, by omega, by omega, by omega, .inl ⟨h1, rfl, rfl⟩⟩
  · rw [if_neg h1, if_pos (by omega)]; exact ⟨_, _, _, rfl, rfl, by omega, by omega, by omega, .inr ⟨by omega, by omega⟩⟩

def truncI (y : Nat) : Int := ((FloatKind.f64.decode y).toInt .zero).getD 0
def truncB (y : Nat) : Nat := FloatKind.f64.encode ((FloatKind.f64.decode y).integral .zero)
def fracF (y : Nat) : Nat := fop .sub .f64 y (floatOfInt .f64 (truncI y))

theorem integral_small {s : Bool} {m : Nat} {e : Int} (he : e ≤ -1) : (Datum.number s m e).integral .zero = .number s (m / 2 ^ (-e).toNat) 0 := by
  simp only [Datum.integral]
  rw [zcut, show e.toNat = 0 by omega, Nat.shiftLeft_zero]

theorem sub_zero {y : Nat} (hy : y < 18446744073709551616) (h : y % 9223372036854775808 < 4841369599423283200) : fop .sub .f64 y 0 = y := by
  obtain ⟨s, m, e, hd, hs, hm, he1, he2, hc⟩ := read_small h
  have h0 : FloatKind.f64.decode 0 = .number false 0 (-1074) := by decide +kernel
  rw [fsub_num hd h0]
  have hb : min e (-1074) = -1074 := by omega
  rw [hb]
  obtain ⟨k, hk⟩ := Int.eq_ofNat_of_zero_le (show 0 ≤ e - -1074 by omega)
  have hk' : (e - -1074).toNat = k := by omega
  rw [hk']
  have hz : signed (!false) 0 (-1074 - (-1074 : Int)).toNat = 0 := by simp [signed]
  rw [hz, Int.add_zero, natAbs_signed, Nat.shiftLeft_eq]
  have hsgn : (if signed s m k = 0 then (s && !false) else decide (signed s m k < 0)) = s := by
    unfold signed
    rw [Nat.shiftLeft_eq]
    by_cases h0 : m = 0
    · subst h0; simp
    · have hpos : 0 < m * 2 ^ k := Nat.mul_pos (by omega) (Nat.two_pow_pos k)
      generalize m * 2 ^ k = A at hpos
      cases s
      · simp only [Bool.false_eq_true, if_false]
        rw [if_neg (by omega)]; simp
      · simp only [if_true]
        rw [if_neg (by omega)]; simp; omega
  rw [hsgn]
  rcases hc with ⟨h1, h2, h3⟩ | ⟨h1, h2⟩
  · subst h3
    have : k = 0 := by omega
    subst this
    have e1 : FloatKind.f64.encode (.number s (m * 2 ^ 0) (-1074)) = FloatKind.f64.format.nearest s m (-1074) := by rw [Nat.pow_zero, Nat.mul_one]; rfl
    rw [e1]
    by_cases h0 : m = 0
    · rw [h0, nearest_zero, word64, hs]
      by_cases hq : y / 9223372036854775808 % 2 = 1
      · rw [hq]; simp; omega
      · have : y / 9223372036854775808 % 2 = 0 := by omega
        rw [this]; simp; omega
    · have hl : m.log2 ≤ 51 := by have := (Nat.log2_lt h0).2 (show m < 2 ^ 52 by rw [show (2 : Nat) ^ 52 = 4503599627370496 by decide]; omega); omega
      rw [nearest_fits _ s m (-1074) h0 (by rw [frac64]; omega) (by rw [least64]; omega), frac64, least64, binade64, inf64]
      have hx : max (-1074 + (m.log2 : Int) - (52 : Nat)) (-1074) = -1074 := by omega
      rw [hx, show (-1074 - (-1074 : Int)).toNat = 0 by decide, Nat.pow_zero, Nat.mul_one, Nat.zero_mul, Nat.zero_add, Nat.min_eq_left (by omega), word64, hs]
      by_cases hq : y / 9223372036854775808 % 2 = 1
      · rw [hq]; simp; omega
      · have : y / 9223372036854775808 % 2 = 0 := by omega
        rw [this]; simp; omega
  · rw [encode_norm s m k (-1074) h1 hm (by omega) (by omega), word64, hs]
    have hkk : (-1074 + (k : Int) + 1074).toNat = (e + 1074).toNat := by omega
    rw [hkk]
    by_cases hq : y / 9223372036854775808 % 2 = 1
    · rw [hq]; simp; omega
    · have : y / 9223372036854775808 % 2 = 0 := by omega
      rw [this]; simp; omega

theorem truncI_small {y : Nat} {s : Bool} {m : Nat} {e : Int} (hd : FloatKind.f64.decode y = .number s m e) (he : e ≤ -1) : truncI y = signed s (m / 2 ^ (-e).toNat) 0 := by
  unfold truncI Datum.toInt
  rw [hd, integral_small he]; rfl
theorem trunc_small {y : Nat} {s : Bool} {m : Nat} {e : Int} (hd : FloatKind.f64.decode y = .number s m e) (he : e ≤ -1) : truncB y = FloatKind.f64.encode (.number s (m / 2 ^ (-e).toNat) 0) := by
  unfold truncB
  rw [hd, integral_small he]
theorem toInt_val {y : Nat} (h : y % 9223372036854775808 < 4841369599423283200) : floatToIntVal .f64 y .i64 = some (truncI y) := by
  obtain ⟨s, m, e, hd, hs, hm, he1, he2, _⟩ := read_small h
  have ht := truncI_small hd he2
  unfold floatToIntVal Datum.toInt
  rw [hd, integral_small he2]
  simp only []
  rw [ht]
  have hK : m / 2 ^ (-e).toNat ≤ m := Nat.div_le_self _ _
  generalize m / 2 ^ (-e).toNat = K at *
  rw [if_pos]
  unfold signed
  rw [Nat.shiftLeft_zero]
  have h1 : IntKind.i64.min = -9223372036854775808 := by decide
  have h2 : IntKind.i64.max = 9223372036854775807 := by decide
  rw [h1, h2]
  split <;> omega

theorem frac_spec {y : Nat} (hy : y < 18446744073709551616) (h : y % 9223372036854775808 < 4841369599423283200) :
    bdd 1023 (fracF y) ∧ ((FloatKind.f64.format.order (truncB y) 0 = some .eq ∧ fracF y = y) ∨ ((FloatKind.f64.format.order (truncB y) 0 != some .eq) = true ∧ truncB y = floatOfInt .f64 (truncI y))) := by
  obtain ⟨s, m, e, hd, hs, hm, he1, he2, hc⟩ := read_small h
  have ht := truncI_small hd he2
  have hB := trunc_small hd he2
  obtain ⟨d, hd'⟩ := Int.eq_ofNat_of_zero_le (show 0 ≤ -e by omega)
  have hdn : (-e).toNat = d := by omega
  rw [hdn] at ht hB
  obtain ⟨K, hK⟩ : ∃ K, m / 2 ^ d = K := ⟨_, rfl⟩
  rw [hK] at ht hB
  have hKm : K ≤ m := by rw [← hK]; exact Nat.div_le_self _ _
  by_cases h0 : K = 0
  · have hfe : floatOfInt .f64 (truncI y) = 0 := by rw [ht, h0]; cases s <;> decide +kernel
    have hfr : fracF y = y := by unfold fracF; rw [hfe]; exact sub_zero hy h
    refine ⟨?_, .inl ⟨?_, hfr⟩⟩
    · rw [hfr]
      have hlt : m < 2 ^ d := by
        rcases Nat.lt_or_ge m (2 ^ d) with h1 | h1
        · exact h1
        · have := (Nat.one_le_div_iff (Nat.two_pow_pos d)).2 h1; omega
      refine .inr ?_
      rcases hc with ⟨h1, _, _⟩ | ⟨h1, h2⟩
      · omega
      · have hd53 : 52 < d := by
          rcases Nat.lt_or_ge 52 d with h3 | h3
          · exact h3
          · have : 2 ^ d ≤ 2 ^ 52 := Nat.pow_le_pow_right (by omega) h3
            rw [show (2 : Nat) ^ 52 = 4503599627370496 by decide] at this
            omega
        have : (e + 1074).toNat ≤ 1021 := by omega
        omega
    · rw [hB, h0]; cases s <;> decide +kernel
  · have hfe : floatOfInt .f64 (truncI y) = FloatKind.f64.encode (.number s K 0) := by
      have e1 : floatOfInt .f64 (truncI y) = FloatKind.f64.encode (.number (decide (truncI y < 0)) (truncI y).natAbs 0) := rfl
      rw [e1, ht, natAbs_signed, Nat.shiftLeft_zero]
      congr 2
      unfold signed
      rw [Nat.shiftLeft_zero]
      cases s <;> simp <;> omega
    have hl : K.log2 ≤ 52 := log2_le (by show _ < 2 ^ 53; rw [show (2 : Nat) ^ 53 = 9007199254740992 by decide]; omega)
    refine ⟨?_, .inr ⟨?_, by rw [hB, hfe]⟩⟩
    · unfold fracF
      rw [hfe]
      obtain ⟨K', e', hK0, he', hdec, hval⟩ := exact64 s K 0 h0 hl (by omega) (by omega)
      rw [fsub_num hd hdec]
      refine bdd_atMost 1023 _ _ _ (by omega) ?_
      -- the difference is what is left over
      generalize hb : min e e' = b
      have hb1 : b ≤ e := by omega
      have hb2 : b ≤ e' := by omega
      have hb3 : -1074 ≤ b := by omega
      obtain ⟨i, hi⟩ := Int.eq_ofNat_of_zero_le (show 0 ≤ e - b by omega)
      obtain ⟨j, hj⟩ := Int.eq_ofNat_of_zero_le (show 0 ≤ e' - b by omega)
      obtain ⟨t, ht'⟩ := Int.eq_ofNat_of_zero_le (show 0 ≤ b + 1074 by omega)
      have hi' : (e - b).toNat = i := by omega
      have hj' : (e' - b).toNat = j := by omega
      rw [hi', hj']
      have hKv : K' * 2 ^ j = K * 2 ^ (d + i) := by
        have h1 : (e' + 1074).toNat = j + t := by omega
        have h2 : ((0 : Int) + 1074).toNat = (d + i) + t := by omega
        rw [h1, h2, Nat.pow_add, Nat.pow_add, ← Nat.mul_assoc, ← Nat.mul_assoc] at hval
        exact Nat.eq_of_mul_eq_mul_right (Nat.two_pow_pos t) hval
      have hmv : m * 2 ^ i = K * 2 ^ (d + i) + (m % 2 ^ d) * 2 ^ i := by
        have h1 := Nat.div_add_mod m (2 ^ d)
        rw [hK] at h1
        calc m * 2 ^ i = (2 ^ d * K + m % 2 ^ d) * 2 ^ i := by rw [h1]
          _ = K * 2 ^ (d + i) + (m % 2 ^ d) * 2 ^ i := by rw [Nat.add_mul, Nat.pow_add, Nat.mul_comm (2 ^ d) K, Nat.mul_assoc]
      have hrem : (m % 2 ^ d) * 2 ^ i ≤ 2 ^ (d + i) := by
        rw [Nat.pow_add]; exact Nat.mul_le_mul_right _ (Nat.le_of_lt (Nat.mod_lt _ (Nat.two_pow_pos d)))
      have habs : (signed s m i + signed (!s) K' j).natAbs ≤ 2 ^ (d + i) := by
        unfold signed
        rw [Nat.shiftLeft_eq, Nat.shiftLeft_eq, hKv, hmv]
        generalize (m % 2 ^ d) * 2 ^ i = R at *
        generalize K * 2 ^ (d + i) = A at *
        generalize 2 ^ (d + i) = B at *
        cases s <;> simp <;> omega
      refine .inr ⟨by omega, ?_⟩
      refine Nat.le_trans habs (Nat.pow_le_pow_right (by omega) (by omega))
    · have hbig := encode_big 1023 s K 0 (by omega) (by omega) h0 (by omega)
      have hlt := (lt64 _).1 (encode_lt .f64 (.number s K 0))
      rw [hB]
      have hnb := encode_atMost 1076 s K 0 (by omega) (.inr ⟨by omega, by show K ≤ 2 ^ 53; rw [show (2 : Nat) ^ 53 = 9007199254740992 by decide]; omega⟩)
      generalize FloatKind.f64.encode (.number s K 0) = X at *
      rw [order64 hlt (by omega) (by omega) (by omega)]
      have hne : key64 X ≠ key64 0 := by unfold key64; rw [if_pos (show (0 : Nat) < 9223372036854775808 by omega)]; split <;> omega
      have : compare (key64 X) (key64 0) ≠ .eq := fun hq => hne (Int.compare_eq_eq.1 hq)
      simpa using this

/-! ### The tail: the sine of a share of a turn -/
def ng64 (x : Nat) : Nat := x ^^^ 9223372036854775808
theorem neg64_eq (x : Nat) : Op.negFloat .f64 x = ng64 x := rfl
theorem ng64_lt {x : Nat} (hx : x < 18446744073709551616) : ng64 x < 18446744073709551616 := Nat.xor_lt_two_pow (n := 64) hx (by omega)
theorem ng64_mod (x : Nat) : ng64 x % 9223372036854775808 = x % 9223372036854775808 := by
  have h := Nat.xor_mod_two_pow (a := x) (b := 9223372036854775808) (n := 63)
  rw [show (2 : Nat) ^ 63 = 9223372036854775808 by decide] at h
  unfold ng64
  rw [h, Nat.mod_self, Nat.xor_zero]
theorem ng64_nan (x : Nat) : isNan .f64 (ng64 x) = isNan .f64 x := by rw [isNan64, isNan64, ng64_mod]
theorem ng64_bdd {E x : Nat} (h : bdd E x) : bdd E (ng64 x) := by
  rcases h with h | h
  · exact .inl (by rw [ng64_nan, h])
  · exact .inr (by rw [ng64_mod]; exact h)
theorem ng64_is {r v : Nat} (h : Is .f64 r v) : Is .f64 (ng64 r) (ng64 v) := by
  refine ⟨ng64_lt h.lt, ?_⟩
  cases hn : isNan .f64 r
  · rw [eq_of_cn h.cn hn]
  · have hv : isNan .f64 v = true := by rw [← isNan_of_cn h.cn, hn]
    rw [cn_of_nan (by rw [ng64_nan, hn]), cn_of_nan (by rw [ng64_nan, hv])]
def ltz (x : Nat) : Bool := FloatKind.f64.format.order x 0 == some .lt
def halfUp (x : Nat) : Bool := FloatKind.f64.format.order x 4602678819172646912 == some .gt || FloatKind.f64.format.order x 4602678819172646912 == some .eq
def overQ (x : Nat) : Bool := FloatKind.f64.format.order x 4598175219545276416 == some .gt
def s1 (f : Nat) : Nat := if ltz f then fop .add .f64 f 4607182418800017408 else f
def s2 (f : Nat) : Nat := if halfUp f then fop .sub .f64 f 4602678819172646912 else f
def s3 (f : Nat) : Nat := if overQ f then fop .sub .f64 4602678819172646912 f else f
def pS (u : Nat) : Nat → Nat
  | 0 => 4607182418800017408
  | j + 1 => fop .sub .f64 4607182418800017408 (fop .quo .f64 (fop .mul .f64 u (pS u j)) (floatOfInt .f64 (2 * (8 - (j : Int)) * (2 * (8 - (j : Int)) + 1))))
def outS (z : Nat) : Nat := fop .mul .f64 z (pS (fop .mul .f64 z z) 8)
def tailS (f : Nat) : Nat := if halfUp (s1 f) then ng64 (outS (fop .mul .f64 (s3 (s2 (s1 f))) 4618760256179416344)) else outS (fop .mul .f64 (s3 (s2 (s1 f))) 4618760256179416344)
def finW (y : Nat) : Bool := FloatKind.f64.format.order (fop .sub .f64 y y) 0 == some .eq
def sineW (y : Nat) : Nat := if !finW y then nanW .f64 else if 4841369599423283200 ≤ y % 9223372036854775808 then 0 else tailS (fracF y)

theorem s1_bdd {f : Nat} (h : bdd 1023 f) : bdd 1024 (s1 f) := by
  unfold s1; split
  · exact bdd_add h (.inr (by omega)) (by omega) (by omega)
  · exact bdd_mono h (by omega)
theorem s2_bdd {f : Nat} (h : bdd 1024 f) : bdd 1025 (s2 f) := by
  unfold s2; split
  · exact bdd_sub h (.inr (by omega)) (by omega) (by omega)
  · exact bdd_mono h (by omega)
theorem s3_bdd {f : Nat} (h : bdd 1025 f) : bdd 1026 (s3 f) := by
  unfold s3; split
  · exact bdd_sub (.inr (by omega)) h (by omega) (by omega)
  · exact bdd_mono h (by omega)
theorem coef_pos (j : Nat) (hj : j < 8) : 1 ≤ 2 * (8 - (j : Int)) * (2 * (8 - (j : Int)) + 1) := by
  have : (1 : Int) * 1 ≤ (2 * (8 - (j : Int))) * (2 * (8 - (j : Int)) + 1) := Int.mul_le_mul (by omega) (by omega) (by omega) (by omega)
  omega
theorem pS_bdd {u : Nat} (hu : bdd 1035 u) : ∀ j, j ≤ 8 → bdd (1023 + 13 * j) (pS u j)
  | 0, _ => .inr (by unfold pS; omega)
  | j + 1, hj => by
    have ih := pS_bdd hu j (by omega)
    unfold pS
    have h1 : bdd (1035 + 13 * j) (fop .mul .f64 u (pS u j)) := bdd_mul _ hu ih (by omega) (by omega) (by omega) (by omega) (by omega) (by omega)
    have h2 := bdd_div (D := 1023) (1035 + 13 * j) h1 (fe_big _ (coef_pos j (by omega))) (by omega) (by omega) (by omega) (by omega) (by omega)
    have one : bdd (1035 + 13 * j) 4607182418800017408 := .inr (by omega)
    exact bdd_mono (bdd_sub one h2 (by omega) (by omega)) (by omega)
theorem outS_bdd {z : Nat} (hz : bdd 1029 z) : bdd 1149 (outS z) := by
  have hu : bdd 1035 (fop .mul .f64 z z) := bdd_mul 1035 hz hz (by omega) (by omega) (by omega) (by omega) (by omega) (by omega)
  exact bdd_mul 1149 hz (pS_bdd hu 8 (Nat.le_refl _)) (by omega) (by omega) (by omega) (by omega) (by omega) (by omega)
theorem tailS_bdd {f : Nat} (h : bdd 1023 f) : bdd 1149 (tailS f) := by
  have hz : bdd 1029 (fop .mul .f64 (s3 (s2 (s1 f))) 4618760256179416344) := bdd_mul (F := 1026) 1029 (s3_bdd (s2_bdd (s1_bdd h))) (.inr (by omega)) (by omega) (by omega) (by omega) (by omega) (by omega) (by omega)
  unfold tailS; split
  · exact ng64_bdd (outS_bdd hz)
  · exact outS_bdd hz
theorem sine_ov {y : Nat} (hy : y < 18446744073709551616) : overflows (sineW y) = false := by
  unfold sineW; split
  · exact bdd_narrow (bdd_nan 2) (by omega)
  · split
    · exact bdd_narrow (E := 2) (.inr (by omega)) (by omega)
    · exact bdd_narrow (tailS_bdd (frac_spec hy (by omega)).1) (by omega)
/-- Whether a number is finite, asked before and behind the widening. -/
theorem fin_wide (x : Nat) : finW (fwiden x) = isFin x := by
  have sub_self : ∀ (k : FloatKind) (b : Nat) (s : Bool) (m : Nat) (e : Int), k.decode b = .number s m e → (k.format.order (fop .sub k b b) 0 == some .eq) = true := by
    intro k b s m e hd
    have hd' : k.format.read b = .number s m e := hd
    have hz : fop .sub k b b = 0 := by
      unfold fop floatBits Format.sub
      simp only [hd', Datum.sum, Datum.opposite, Option.map_some, Option.getD_some]
      have hc : signed s m (e - min e e).toNat + signed (!s) m (e - min e e).toNat = 0 := by unfold signed; cases s <;> simp <;> omega
      rw [hc, if_pos rfl]
      cases s <;> (cases k <;> simp [Format.write, Format.nearest, Format.word])
    rw [hz]
    cases k <;> decide +kernel
  have sub_not : ∀ (k : FloatKind) (b : Nat), (k.decode b).isNaN = true ∨ (∃ s, k.decode b = .infinity s) → (k.format.order (fop .sub k b b) 0 == some .eq) = false := by
    intro k b h
    have hz : isNan k (fop .sub k b b) = true := by
      rcases h with h | ⟨s, h⟩
      · unfold fop; rw [floatBits_nan_l _ _ h]; exact isNan_nanW k
      · have hd' : k.format.read b = .infinity s := h
        unfold fop floatBits Format.sub
        simp only [hd', Datum.sum, Datum.opposite]
        cases s <;> exact isNan_nanW k
    rw [order_nan_left _ hz]; rfl
  unfold finW isFin fwiden
  cases h : FloatKind.f32.decode x with
  | nan s t =>
    rw [sub_not .f32 x (.inl (by rw [h]; rfl)), sub_not .f64 _ (.inl (isNan_nanW .f64))]
  | infinity s =>
    rw [sub_not .f32 x (.inr ⟨s, h⟩), sub_not .f64 _ (.inr ⟨s, by cases s <;> decide +kernel⟩)]
  | number s m e =>
    obtain ⟨m', e', _, hd', _⟩ := widen_finite h
    rw [sub_self .f32 x s m e h, sub_self .f64 _ _ _ _ hd']
theorem finW_number {y : Nat} (h : finW y = true) : isNan .f64 y = false ∧ y % 9223372036854775808 < 9218868437227405312 := by
  have hn : isNan .f64 y = false := by
    cases hn : isNan .f64 y
    · rfl
    · unfold finW at h; rw [fop_nan_l _ _ hn, order_nan_left _ (isNan_nanW .f64)] at h; cases h
  refine ⟨hn, ?_⟩
  have := not_nan64 hn
  rcases Nat.lt_or_ge (y % 9223372036854775808) 9218868437227405312 with h1 | h1
  · exact h1
  · exfalso
    have he : y % 9223372036854775808 = 9218868437227405312 := by omega
    have hd : FloatKind.f64.decode y = .infinity (y / 9223372036854775808 % 2 == 1) := by rw [read64, he]; rfl
    have hd' : FloatKind.f64.format.read y = .infinity (y / 9223372036854775808 % 2 == 1) := hd
    unfold finW at h
    have hz : fop .sub .f64 y y = nanW .f64 := by
      unfold fop floatBits Format.sub
      simp only [hd', Datum.sum, Datum.opposite]
      cases (y / 9223372036854775808 % 2 == 1) <;> rfl
    rw [hz, order_nan_left _ (isNan_nanW .f64)] at h; cases h
theorem finW_congr {x y : Nat} (h : cn .f64 x = cn .f64 y) : finW x = finW y := by unfold finW; rw [fop_congr h h]
end Go.Fl
