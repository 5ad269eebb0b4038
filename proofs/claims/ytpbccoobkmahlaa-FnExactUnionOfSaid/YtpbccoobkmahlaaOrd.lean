/- How two floating-point words stand to each other: as their rungs with their signs do. No conditions but that none is a not-a-number. -/
import Derived.Test.YtpbccoobkmahlaaFl
namespace Go.Fl
open Ieee

/-- The magnitude of a rung, in units of the least place. -/
def mag (f : Format) (u : Nat) : Nat := if u < f.binade then u else (f.binade + u % f.binade) * 2 ^ (u / f.binade - 1)

theorem binade_pos (f : Format) : 0 < f.binade := Nat.two_pow_pos _

theorem mag_lt_mag (f : Format) {u v : Nat} (h : u < v) : mag f u < mag f v := by
  have hB := binade_pos f
  unfold mag
  generalize f.binade = B at *
  by_cases h2 : v < B
  · rw [if_pos (by omega), if_pos h2]; exact h
  · rw [if_neg h2]
    have hp : 0 < 2 ^ (v / B - 1) := Nat.two_pow_pos _
    have hv1 : 1 ≤ v / B := (Nat.le_div_iff_mul_le hB).2 (by omega)
    by_cases h1 : u < B
    · rw [if_pos h1]
      calc u < B := h1
        _ ≤ B + v % B := Nat.le_add_right _ _
        _ = (B + v % B) * 1 := (Nat.mul_one _).symm
        _ ≤ _ := Nat.mul_le_mul_left _ hp
    · rw [if_neg h1]
      have hu1 : 1 ≤ u / B := (Nat.le_div_iff_mul_le hB).2 (by omega)
      have hle : u / B ≤ v / B := Nat.div_le_div_right (by omega)
      have hu2 := Nat.mod_lt u hB
      rcases Nat.lt_or_ge (u / B) (v / B) with hlt | hge
      · calc (B + u % B) * 2 ^ (u / B - 1) < (B + B) * 2 ^ (u / B - 1) := Nat.mul_lt_mul_of_pos_right (by omega) (Nat.two_pow_pos _)
          _ = B * 2 ^ (u / B) := by
            obtain ⟨q, hq⟩ : ∃ q, u / B = q + 1 := ⟨u / B - 1, by omega⟩
            rw [hq, Nat.add_sub_cancel, Nat.pow_succ, ← Nat.two_mul, Nat.mul_comm 2 B, Nat.mul_assoc, Nat.mul_comm 2]
          _ ≤ B * 2 ^ (v / B - 1) := Nat.mul_le_mul_left _ (Nat.pow_le_pow_right (by omega) (by omega))
          _ ≤ _ := Nat.mul_le_mul_right _ (Nat.le_add_right _ _)
      · have he : u / B = v / B := by omega
        rw [he]
        refine Nat.mul_lt_mul_of_pos_right ?_ hp
        have h3 := Nat.div_add_mod u B
        have h4 := Nat.div_add_mod v B
        rw [he] at h3
        omega

theorem mag_inj (f : Format) {u v : Nat} (h : mag f u = mag f v) : u = v := by
  rcases Nat.lt_trichotomy u v with h1 | h1 | h1
  · have := mag_lt_mag f h1; omega
  · exact h1
  · have := mag_lt_mag f h1; omega

theorem compare_mag (f : Format) (u v : Nat) : compare ((mag f u : Nat) : Int) (mag f v : Nat) = compare (u : Int) v := by
  rcases Nat.lt_trichotomy u v with h1 | h1 | h1
  · have := mag_lt_mag f h1
    rw [Int.compare_eq_lt.2 (by omega), Int.compare_eq_lt.2 (by omega)]
  · subst h1; rw [Int.compare_eq_eq.2 rfl, Int.compare_eq_eq.2 rfl]
  · have := mag_lt_mag f h1
    rw [Int.compare_eq_gt.2 (by omega), Int.compare_eq_gt.2 (by omega)]

/-- A word's rung with its sign. -/
def key (f : Format) (x : Nat) : Int := if x / f.signWeight % 2 == 1 then -((x % f.signWeight : Nat) : Int) else ((x % f.signWeight : Nat) : Int)

theorem mag_zero (f : Format) : mag f 0 = 0 := by unfold mag; rw [if_pos (binade_pos f)]
theorem mag_pos (f : Format) {u : Nat} (h : 0 < u) : 0 < mag f u := by have := mag_lt_mag f h; rw [mag_zero] at this; exact this

/-- The value of a word that is a number, in units of the least place. -/
def sv (neg : Bool) (m : Nat) : Int := if neg then -(m : Int) else m

theorem compare_sv (f : Format) (s t : Bool) (u v : Nat) : compare (sv s (mag f u)) (sv t (mag f v)) = compare (sv s u) (sv t v) := by
  have hu : 0 < u → 0 < mag f u := mag_pos f
  have hv : 0 < v → 0 < mag f v := mag_pos f
  have hu0 : u = 0 → mag f u = 0 := fun h => by rw [h, mag_zero]
  have hv0 : v = 0 → mag f v = 0 := fun h => by rw [h, mag_zero]
  have h1 : u < v → mag f u < mag f v := mag_lt_mag f
  have h2 : v < u → mag f v < mag f u := mag_lt_mag f
  have h3 : u = v → mag f u = mag f v := fun h => by rw [h]
  generalize mag f u = mu at *
  generalize mag f v = mv at *
  have key : ∀ a b c d : Int, (a < b ↔ c < d) → (a = b ↔ c = d) → compare a b = compare c d := by
    intro a b c d i1 i2
    rcases Int.lt_trichotomy a b with h | h | h
    · rw [Int.compare_eq_lt.2 h, Int.compare_eq_lt.2 (i1.1 h)]
    · rw [Int.compare_eq_eq.2 h, Int.compare_eq_eq.2 (i2.1 h)]
    · rw [Int.compare_eq_gt.2 h, Int.compare_eq_gt.2 (by omega)]
  unfold sv
  cases s <;> cases t <;> simp only [Bool.false_eq_true, if_false, if_true] <;> refine key _ _ _ _ ?_ ?_ <;> omega

theorem compare_scale (a b : Int) (k : Nat) : compare (a * 2 ^ k) (b * 2 ^ k) = compare a b := by
  have hk : (0 : Int) < 2 ^ k := Int.pow_pos (by omega)
  rcases Int.lt_trichotomy a b with h | h | h
  · rw [Int.compare_eq_lt.2 h, Int.compare_eq_lt.2 (Int.mul_lt_mul_of_pos_right h hk)]
  · subst h; rw [Int.compare_eq_eq.2 rfl, Int.compare_eq_eq.2 rfl]
  · rw [Int.compare_eq_gt.2 h, Int.compare_eq_gt.2 (Int.mul_lt_mul_of_pos_right h hk)]

theorem signed_eq (s : Bool) (m up : Nat) : signed s m up = sv s (m * 2 ^ up) := by
  unfold signed sv; rw [Nat.shiftLeft_eq]
theorem sv_mul (s : Bool) (m k : Nat) : sv s (m * 2 ^ k) = sv s m * 2 ^ k := by
  unfold sv
  cases s <;> simp [Int.neg_mul]

/-- What a word stands for, by its rung. -/
theorem read_finite (f : Format) (x : Nat) (h : x % f.signWeight < f.infRung) :
    ∃ m e, f.read x = .number (x / f.signWeight % 2 == 1) m (f.leastPlace + (e : Nat)) ∧ m * 2 ^ e = mag f (x % f.signWeight) := by
  unfold Format.read mag
  simp only []
  by_cases h1 : x % f.signWeight < f.binade
  · rw [if_pos h1, if_pos h1]; exact ⟨x % f.signWeight, 0, by simp, by simp⟩
  · rw [if_neg h1, if_neg h1, if_pos h]; exact ⟨_, _, rfl, rfl⟩

theorem read_inf (f : Format) (hf : f.binade ≤ f.infRung) (x : Nat) (h : x % f.signWeight = f.infRung) : f.read x = .infinity (x / f.signWeight % 2 == 1) := by
  unfold Format.read
  simp only []
  rw [if_neg (by omega), if_neg (by omega), if_pos h]

theorem key_eq (f : Format) (x : Nat) : key f x = sv (x / f.signWeight % 2 == 1) (x % f.signWeight) := by
  unfold key sv
  cases (x / f.signWeight % 2 == 1) <;> simp

/-- HOW TWO WORDS STAND TO EACH OTHER: as their rungs with their signs. -/
theorem order_key (f : Format) (hf : f.binade ≤ f.infRung) {x y : Nat} (hx : x % f.signWeight ≤ f.infRung) (hy : y % f.signWeight ≤ f.infRung) :
    f.order x y = some (compare (key f x) (key f y)) := by
  have hB := binade_pos f
  rw [key_eq, key_eq]
  unfold Format.order
  rcases Nat.lt_or_eq_of_le hx with h1 | h1 <;> rcases Nat.lt_or_eq_of_le hy with h2 | h2
  · obtain ⟨m, e, hr, hm⟩ := read_finite f x h1
    obtain ⟨n, g, hr', hn⟩ := read_finite f y h2
    rw [hr, hr']
    simp only [Datum.order]
    rw [signed_eq, signed_eq]
    have e1 : (f.leastPlace + (e : Int) - min (f.leastPlace + (e : Int)) (f.leastPlace + (g : Int))).toNat = e - min e g := by omega
    have e2 : (f.leastPlace + (g : Int) - min (f.leastPlace + (e : Int)) (f.leastPlace + (g : Int))).toNat = g - min e g := by omega
    rw [e1, e2, ← compare_scale _ _ (min e g), ← sv_mul, ← sv_mul, Nat.mul_assoc, Nat.mul_assoc, ← Nat.pow_add, ← Nat.pow_add]
    rw [show e - min e g + min e g = e from by omega, show g - min e g + min e g = g from by omega, hm, hn, compare_sv]
  · obtain ⟨m, e, hr, _⟩ := read_finite f x h1
    rw [hr, read_inf f hf y h2]
    generalize (x / f.signWeight % 2 == 1) = s
    generalize (y / f.signWeight % 2 == 1) = t
    simp only [Datum.order]
    rw [h2]
    congr 1
    cases t <;> cases s <;> simp only [sv, Bool.false_eq_true, if_false, if_true]
    · rw [Int.compare_eq_lt.2 (by omega)]
    · rw [Int.compare_eq_lt.2 (by omega)]
    · rw [Int.compare_eq_gt.2 (by omega)]
    · rw [Int.compare_eq_gt.2 (by omega)]
  · obtain ⟨m, e, hr, _⟩ := read_finite f y h2
    rw [hr, read_inf f hf x h1]
    generalize (x / f.signWeight % 2 == 1) = s
    generalize (y / f.signWeight % 2 == 1) = t
    simp only [Datum.order]
    rw [h1]
    congr 1
    cases s <;> cases t <;> simp only [sv, Bool.false_eq_true, if_false, if_true]
    · rw [Int.compare_eq_gt.2 (by omega)]
    · rw [Int.compare_eq_gt.2 (by omega)]
    · rw [Int.compare_eq_lt.2 (by omega)]
    · rw [Int.compare_eq_lt.2 (by omega)]
  · rw [read_inf f hf x h1, read_inf f hf y h2, h1, h2]
    generalize (x / f.signWeight % 2 == 1) = s
    generalize (y / f.signWeight % 2 == 1) = t
    simp only [Datum.order]
    congr 1
    cases s <;> cases t <;> simp only [sv, Bool.false_eq_true, if_false, if_true, Bool.toNat_true, Bool.toNat_false]
    · rw [Int.compare_eq_eq.2 rfl]; rfl
    · rw [Int.compare_eq_gt.2 (by omega)]; rfl
    · rw [Int.compare_eq_lt.2 (by omega)]; rfl
    · rw [Int.compare_eq_eq.2 rfl]; rfl

/-- The rung of a 32-bit word with its sign. -/
def key32 (x : Nat) : Int := if x < 2147483648 then (x : Int) else 2147483648 - (x : Int)
def key64 (x : Nat) : Int := if x < 9223372036854775808 then (x : Int) else 9223372036854775808 - (x : Int)

theorem order32 {x y : Nat} (hx : x < 4294967296) (hy : y < 4294967296) (nx : x % 2147483648 ≤ 2139095040) (ny : y % 2147483648 ≤ 2139095040) :
    FloatKind.f32.format.order x y = some (compare (key32 x) (key32 y)) := by
  have hs : FloatKind.f32.format.signWeight = 2147483648 := by decide +kernel
  have hi : FloatKind.f32.format.infRung = 2139095040 := by decide +kernel
  have hb : FloatKind.f32.format.binade = 8388608 := by decide +kernel
  have hk : ∀ z : Nat, z < 4294967296 → key FloatKind.f32.format z = key32 z := by
    intro z hz
    unfold key key32
    rw [hs]
    by_cases h : z < 2147483648
    · have : z / 2147483648 = 0 := by omega
      rw [this, if_pos h]; simp; omega
    · have : z / 2147483648 = 1 := by omega
      rw [this, if_neg h]; simp; omega
  rw [order_key _ (by rw [hb, hi]; omega) (by rw [hs, hi]; exact nx) (by rw [hs, hi]; exact ny), hk x hx, hk y hy]

theorem order64 {x y : Nat} (hx : x < 18446744073709551616) (hy : y < 18446744073709551616) (nx : x % 9223372036854775808 ≤ 9218868437227405312) (ny : y % 9223372036854775808 ≤ 9218868437227405312) :
    FloatKind.f64.format.order x y = some (compare (key64 x) (key64 y)) := by
  have hs : FloatKind.f64.format.signWeight = 9223372036854775808 := by decide +kernel
  have hi : FloatKind.f64.format.infRung = 9218868437227405312 := by decide +kernel
  have hb : FloatKind.f64.format.binade = 4503599627370496 := by decide +kernel
  have hk : ∀ z : Nat, z < 18446744073709551616 → key FloatKind.f64.format z = key64 z := by
    intro z hz
    unfold key key64
    rw [hs]
    by_cases h : z < 9223372036854775808
    · have : z / 9223372036854775808 = 0 := by omega
      rw [this, if_pos h]; simp; omega
    · have : z / 9223372036854775808 = 1 := by omega
      rw [this, if_neg h]; simp; omega
  rw [order_key _ (by rw [hb, hi]; omega) (by rw [hs, hi]; exact nx) (by rw [hs, hi]; exact ny), hk x hx, hk y hy]


theorem not_nan32 {x : Nat} (h : isNan .f32 x = false) : x % 2147483648 ≤ 2139095040 := by
  rw [isNan32] at h; simpa using h
theorem not_nan64 {x : Nat} (h : isNan .f64 x = false) : x % 9223372036854775808 ≤ 9218868437227405312 := by
  rw [isNan64] at h; simpa using h
theorem nan32 {x : Nat} (h : isNan .f32 x = true) : 2139095040 < x % 2147483648 := by
  rw [isNan32] at h; simpa using h

theorem order32_lt {x y : Nat} (hx : x < 4294967296) (hy : y < 4294967296) (nx : isNan .f32 x = false) (ny : isNan .f32 y = false) :
    (FloatKind.f32.format.order x y == some .lt) = decide (key32 x < key32 y) := by
  rw [order32 hx hy (not_nan32 nx) (not_nan32 ny)]
  rcases Int.lt_trichotomy (key32 x) (key32 y) with h | h | h
  · rw [Int.compare_eq_lt.2 h]; simp [h]
  · rw [Int.compare_eq_eq.2 h]; simp [h]
  · rw [Int.compare_eq_gt.2 h]; simp; omega
theorem order32_gt {x y : Nat} (hx : x < 4294967296) (hy : y < 4294967296) (nx : isNan .f32 x = false) (ny : isNan .f32 y = false) :
    (FloatKind.f32.format.order x y == some .gt) = decide (key32 y < key32 x) := by
  rw [order32 hx hy (not_nan32 nx) (not_nan32 ny)]
  rcases Int.lt_trichotomy (key32 x) (key32 y) with h | h | h
  · rw [Int.compare_eq_lt.2 h]; simp; omega
  · rw [Int.compare_eq_eq.2 h]; simp [h]
  · rw [Int.compare_eq_gt.2 h]; simp [h]
theorem order32_eq {x y : Nat} (hx : x < 4294967296) (hy : y < 4294967296) (nx : isNan .f32 x = false) (ny : isNan .f32 y = false) :
    (FloatKind.f32.format.order x y == some .eq) = decide (key32 x = key32 y) := by
  rw [order32 hx hy (not_nan32 nx) (not_nan32 ny)]
  rcases Int.lt_trichotomy (key32 x) (key32 y) with h | h | h
  · rw [Int.compare_eq_lt.2 h]; simp; omega
  · rw [Int.compare_eq_eq.2 h]; simp [h]
  · rw [Int.compare_eq_gt.2 h]; simp; omega
theorem order64_lt {x y : Nat} (hx : x < 18446744073709551616) (hy : y < 18446744073709551616) (nx : isNan .f64 x = false) (ny : isNan .f64 y = false) :
    (FloatKind.f64.format.order x y == some .lt) = decide (key64 x < key64 y) := by
  rw [order64 hx hy (not_nan64 nx) (not_nan64 ny)]
  rcases Int.lt_trichotomy (key64 x) (key64 y) with h | h | h
  · rw [Int.compare_eq_lt.2 h]; simp [h]
  · rw [Int.compare_eq_eq.2 h]; simp [h]
  · rw [Int.compare_eq_gt.2 h]; simp; omega
theorem order64_gt {x y : Nat} (hx : x < 18446744073709551616) (hy : y < 18446744073709551616) (nx : isNan .f64 x = false) (ny : isNan .f64 y = false) :
    (FloatKind.f64.format.order x y == some .gt) = decide (key64 y < key64 x) := by
  rw [order64 hx hy (not_nan64 nx) (not_nan64 ny)]
  rcases Int.lt_trichotomy (key64 x) (key64 y) with h | h | h
  · rw [Int.compare_eq_lt.2 h]; simp; omega
  · rw [Int.compare_eq_eq.2 h]; simp [h]
  · rw [Int.compare_eq_gt.2 h]; simp [h]
theorem order64_eq {x y : Nat} (hx : x < 18446744073709551616) (hy : y < 18446744073709551616) (nx : isNan .f64 x = false) (ny : isNan .f64 y = false) :
    (FloatKind.f64.format.order x y == some .eq) = decide (key64 x = key64 y) := by
  rw [order64 hx hy (not_nan64 nx) (not_nan64 ny)]
  rcases Int.lt_trichotomy (key64 x) (key64 y) with h | h | h
  · rw [Int.compare_eq_lt.2 h]; simp; omega
  · rw [Int.compare_eq_eq.2 h]; simp [h]
  · rw [Int.compare_eq_gt.2 h]; simp; omega

/-! ### Subnormal numbers -/
def isSub (x : Nat) : Bool := decide (x % 2147483648 ≠ 0 ∧ x % 2147483648 < 8388608)
theorem ne_zero32 {x : Nat} (hx : x < 4294967296) : (FloatKind.f32.format.order x 0 != some .eq) = decide (x % 2147483648 ≠ 0) := by
  cases h : isNan .f32 x
  · have := order32_eq hx (show (0 : Nat) < 4294967296 by omega) h (by decide +kernel)
    have e : (FloatKind.f32.format.order x 0 != some .eq) = !(FloatKind.f32.format.order x 0 == some .eq) := rfl
    rw [e, this, show key32 0 = 0 from rfl, ← decide_not]
    refine decide_eq_decide.2 ?_
    unfold key32; split <;> omega
  · have := nan32 h
    rw [order_nan_left 0 h, decide_eq_true (by omega)]; rfl
theorem abs_lt32 (x : Nat) : (FloatKind.f32.format.order (x % 2147483648) 8388608 == some .lt) = decide (x % 2147483648 < 8388608) := by
  have hy : x % 2147483648 < 4294967296 := by omega
  cases h : isNan .f32 (x % 2147483648)
  · rw [order32_lt hy (show (8388608 : Nat) < 4294967296 by omega) h (by decide +kernel), show key32 8388608 = 8388608 from rfl]
    refine decide_eq_decide.2 ?_
    unfold key32; split <;> omega
  · have := nan32 h
    rw [order_nan_left _ h]; simp; omega

/-! ### Bits of a word -/
theorem and_exp (x : Nat) : x &&& 2139095040 = x / 8388608 % 256 * 8388608 := by
  have h1 : (x &&& 2139095040) / 2 ^ 23 = x / 2 ^ 23 &&& 2139095040 / 2 ^ 23 := Nat.and_div_two_pow
  have h2 : (x &&& 2139095040) % 2 ^ 23 = x % 2 ^ 23 &&& 2139095040 % 2 ^ 23 := Nat.and_mod_two_pow
  have h3 : x / 2 ^ 23 &&& 2 ^ 8 - 1 = x / 2 ^ 23 % 2 ^ 8 := Nat.and_two_pow_sub_one_eq_mod _ 8
  simp only [Nat.reducePow, Nat.reduceDiv, Nat.reduceMod, Nat.and_zero, Nat.reduceSub] at h1 h2 h3
  rw [h3] at h1
  have := Nat.div_add_mod (x &&& 2139095040) 8388608
  rw [h1, h2] at this
  omega
theorem and_sign (x : Nat) (hx : x < 4294967296) : x &&& 2147483648 = x / 2147483648 * 2147483648 := by
  have h1 : (x &&& 2147483648) / 2 ^ 31 = x / 2 ^ 31 &&& 2147483648 / 2 ^ 31 := Nat.and_div_two_pow
  have h2 : (x &&& 2147483648) % 2 ^ 31 = x % 2 ^ 31 &&& 2147483648 % 2 ^ 31 := Nat.and_mod_two_pow
  have h3 : x / 2 ^ 31 &&& 2 ^ 1 - 1 = x / 2 ^ 31 % 2 ^ 1 := Nat.and_two_pow_sub_one_eq_mod _ 1
  simp only [Nat.reducePow, Nat.reduceDiv, Nat.reduceMod, Nat.and_zero, Nat.reduceSub] at h1 h2 h3
  rw [h3] at h1
  have := Nat.div_add_mod (x &&& 2147483648) 2147483648
  rw [h1, h2] at this
  omega
theorem and_low (x : Nat) : x &&& 2147483647 = x % 2147483648 := Nat.and_two_pow_sub_one_eq_mod x 31
theorem u32_abs (x : Nat) (hx : x < 4294967296) : (bits BinOp.andNot IntKind.u32 (x : Int) 2147483648).toNat = x % 2147483648 := by
  rw [show (2147483648 : Int) = ((2147483648 : Nat) : Int) from rfl, u32_andNot_nat x 2147483648 hx (by omega), Int.toNat_natCast]
  exact and_low x
theorem u32_sign (x : Nat) (hx : x < 4294967296) : (bits BinOp.and IntKind.u32 (x : Int) 2147483648).toNat = x / 2147483648 * 2147483648 := by
  rw [show (2147483648 : Int) = ((2147483648 : Nat) : Int) from rfl, u32_and_nat x 2147483648 hx (by omega), Int.toNat_natCast]
  exact and_sign x hx
theorem i64_and_nat (a b : Nat) (ha : a < 9223372036854775808) (hb : b < 9223372036854775808) : bits .and .i64 (a : Int) (b : Int) = ((a &&& b : Nat) : Int) := by
  have hx : a &&& b < 2 ^ 63 := Nat.and_lt_two_pow _ (by omega)
  have h1 : (BitVec.ofInt 64 (a : Int)).toNat = a := by
    rw [BitVec.ofInt_natCast, BitVec.toNat_ofNat]; exact Nat.mod_eq_of_lt (by omega)
  have h2 : (BitVec.ofInt 64 (b : Int)).toNat = b := by
    rw [BitVec.ofInt_natCast, BitVec.toNat_ofNat]; exact Nat.mod_eq_of_lt (by omega)
  show IntKind.i64.wrap ((BitVec.ofInt 64 (a : Int) &&& BitVec.ofInt 64 (b : Int)).toNat : Int) = _
  rw [BitVec.toNat_and, h1, h2, IntKind.wrap_i64]
  omega
theorem i64_exp (a : Nat) (ha : a < 4294967296) : bits .and .i64 (a : Int) 2139095040 = ((a / 8388608 % 256 * 8388608 : Nat) : Int) := by
  rw [show (2139095040 : Int) = ((2139095040 : Nat) : Int) from rfl, i64_and_nat a 2139095040 (by omega) (by omega), and_exp]
theorem i64_sign (a : Nat) (ha : a < 4294967296) : bits .and .i64 (a : Int) 2147483648 = ((a / 2147483648 * 2147483648 : Nat) : Int) := by
  rw [show (2147483648 : Int) = ((2147483648 : Nat) : Int) from rfl, i64_and_nat a 2147483648 (by omega) (by omega), and_sign a ha]
theorem cn_lt32 {x : Nat} (hx : x < 4294967296) : cn .f32 x < 4294967296 := by
  cases h : isNan .f32 x
  · rw [cn_of_not h]; exact hx
  · rw [cn_of_nan h]; decide
/-- As the reference asks whether a number is subnormal, or zero. -/
theorem exp_zero (x : Nat) : ((cn .f32 x / 8388608 % 256 * 8388608 : Nat) : Int) = 0 ↔ x % 2147483648 < 8388608 := by
  cases h : isNan .f32 x
  · have := not_nan32 h
    rw [cn_of_not h]; omega
  · have := nan32 h
    rw [cn_of_nan h, show nanW .f32 = 2143289344 from rfl]; omega
theorem isSub_impl {x : Nat} (h0 : x % 2147483648 ≠ 0) : (FloatKind.f32.format.order (x % 2147483648) 8388608 == some .lt) = isSub x := by
  rw [abs_lt32]; unfold isSub
  exact decide_eq_decide.2 (by omega)
theorem isSub_spec {x : Nat} (hx : x < 4294967296) (h0 : x % 2147483648 ≠ 0) : (bits .and .i64 (bitsI x) 2139095040 == 0) = isSub x := by
  unfold bitsI isSub
  rw [i64_exp _ (cn_lt32 hx), Bool.eq_iff_iff, beq_iff_eq, exp_zero, decide_eq_true_iff]
  omega
theorem isSub_zero {x : Nat} (h0 : x % 2147483648 = 0) : isSub x = false := by
  unfold isSub; exact decide_eq_false (by omega)

/-! ### Flushing; the next number -/
def flush (x : Nat) : Nat := if x % 2147483648 < 8388608 then x / 2147483648 * 2147483648 else x
theorem flush_of {x : Nat} (h : isSub x = true) : flush x = x / 2147483648 * 2147483648 := by
  unfold isSub at h; unfold flush; rw [if_pos (by have := of_decide_eq_true h; omega)]
theorem flush_not {x : Nat} (h : isSub x = false) : flush x = x := by
  unfold isSub at h
  have h' := of_decide_eq_false h
  unfold flush; split
  · omega
  · rfl
theorem flush_lt {x : Nat} (hx : x < 4294967296) : flush x < 4294967296 := by unfold flush; split <;> omega
/-- As the reference asks. -/
theorem exp_zero_b {x : Nat} (hx : x < 4294967296) : (bits BinOp.and IntKind.i64 (bitsI x) 2139095040 == 0) = decide (x % 2147483648 < 8388608) := by
  unfold bitsI
  rw [i64_exp _ (cn_lt32 hx), Bool.eq_iff_iff, beq_iff_eq, exp_zero, decide_eq_true_iff]
theorem flush_spec {x : Nat} (hx : x < 4294967296) (h : x % 2147483648 < 8388608) : (bits BinOp.and IntKind.i64 (bitsI x) 2147483648) = (flush x : Nat) := by
  have hn : isNan .f32 x = false := by rw [isNan32]; exact decide_eq_false (by omega)
  unfold bitsI flush
  rw [cn_of_not hn, i64_sign _ hx, if_pos h]

def isInfUp (x : Nat) : Bool := decide (x = 2139095040)
def nx (x : Nat) : Nat := if 2139095040 < x % 2147483648 ∨ x = 2139095040 then x else if x % 2147483648 = 0 then 1 else if x < 2147483648 then x + 1 else x - 1
theorem nx_lt {x : Nat} (hx : x < 4294967296) : nx x < 4294967296 := by
  unfold nx; split
  · exact hx
  · split
    · omega
    · split <;> omega
theorem gt_most {x : Nat} (hx : x < 4294967296) (hn : isNan .f32 x = false) : (FloatKind.f32.format.order x 2139095039 == some .gt) = decide (x = 2139095040) := by
  rw [order32_gt hx (by omega) hn (by decide +kernel), show key32 2139095039 = 2139095039 from rfl]
  have := not_nan32 hn
  refine decide_eq_decide.2 ?_
  unfold key32; split <;> omega
theorem eq_zero32 {x : Nat} (hx : x < 4294967296) : (FloatKind.f32.format.order x 0 == some .eq) = decide (x % 2147483648 = 0) := by
  have := ne_zero32 hx
  have e : (FloatKind.f32.format.order x 0 != some .eq) = !(FloatKind.f32.format.order x 0 == some .eq) := rfl
  rw [e] at this
  rw [← Bool.not_not (FloatKind.f32.format.order x 0 == some .eq), this, ← decide_not]
  exact decide_eq_decide.2 (by omega)
theorem lt_zero32 {x : Nat} (hx : x < 4294967296) (hn : isNan .f32 x = false) : (FloatKind.f32.format.order x 0 == some .lt) = decide (2147483648 < x) := by
  rw [order32_lt hx (by omega) hn (by decide +kernel), show key32 0 = 0 from rfl]
  refine decide_eq_decide.2 ?_
  unfold key32; split <;> omega
theorem gt_zero32 {x : Nat} (hx : x < 4294967296) (hn : isNan .f32 x = false) : (FloatKind.f32.format.order x 0 == some .gt) = decide (0 < x ∧ x < 2147483648) := by
  rw [order32_gt hx (by omega) hn (by decide +kernel), show key32 0 = 0 from rfl]
  refine decide_eq_decide.2 ?_
  unfold key32; split <;> omega
/-- The number with the other sign. -/
def ng (x : Nat) : Nat := x ^^^ 2147483648
theorem neg_eq (x : Nat) : Op.negFloat .f32 x = ng x := rfl
theorem ng_lt {x : Nat} (hx : x < 4294967296) : ng x < 4294967296 := Nat.xor_lt_two_pow (n := 32) hx (by omega)
end Go.Fl
