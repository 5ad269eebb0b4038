/- The angle in 64 bits: what it comes to, and that a float32 lies near it. No conditions. -/
import Derived.Test.YtepanenjhfmoiaaSineB
namespace Go.Fl
open Ieee

def absB (x : Nat) : Nat := x % 9223372036854775808
def overB (a b : Nat) : Bool := FloatKind.f64.format.order a b == some .gt
def t0F (a b : Nat) : Nat := if overB a b then fop .quo .f64 b a else fop .quo .f64 a b
def stepA (t : Nat) : Nat := fop .quo .f64 t (fop .add .f64 4607182418800017408 (fsqrt (fop .add .f64 4607182418800017408 (fop .mul .f64 t t))))
def stepsA (t : Nat) : Nat → Nat
  | 0 => t
  | j + 1 => stepA (stepsA t j)
def pA (u : Nat) : Nat → Nat
  | 0 => 0
  | j + 1 => fop .sub .f64 (fop .quo .f64 4607182418800017408 (floatOfInt .f64 (15 - 2 * (j : Int)))) (fop .mul .f64 u (pA u j))
def ang0 (t : Nat) : Nat := fop .quo .f64 (fop .mul .f64 4620693217682128896 (fop .mul .f64 t (pA (fop .mul .f64 t t) 8))) 4618760256179416344
def ang1 (a b g : Nat) : Nat := if overB a b then fop .sub .f64 4598175219545276416 g else g
def ang2 (x g : Nat) : Nat := if ltz x then fop .sub .f64 4602678819172646912 g else g
def ang3 (y g : Nat) : Nat := if ltz y then ng64 g else g
def eqz (x : Nat) : Bool := FloatKind.f64.format.order x 0 == some .eq
def angleW (y x : Nat) : Nat :=
  if !(finW y && finW x) then nanW .f64 else if eqz x && eqz y then 0
  else ang3 y (ang2 x (ang1 (absB y) (absB x) (ang0 (stepsA (t0F (absB y) (absB x)) 3))))

/-- A number without a sign and what it stands for. -/
theorem read_pos {a : Nat} (h : a < 9218868437227405312) : ∃ m i, FloatKind.f64.decode a = .number false m i ∧ -1074 ≤ i ∧ m < 9007199254740992 ∧ m * 2 ^ (i + 1074).toNat = mag FloatKind.f64.format a ∧ (a = 0 ↔ m = 0) := by
  have hm : a % 9223372036854775808 = a := Nat.mod_eq_of_lt (by omega)
  have hs : (a / 9223372036854775808 % 2 == 1) = false := by
    have : a / 9223372036854775808 = 0 := by omega
    rw [this]; rfl
  unfold mag
  rw [read64, hm, hs, binade64]
  by_cases h1 : a < 4503599627370496
  · rw [if_pos h1, if_pos h1]; exact ⟨_, _, rfl, by omega, by omega, by simp, Iff.rfl⟩
  · rw [if_neg h1, if_pos h, if_neg h1]
    refine ⟨_, _, rfl, by omega, by omega, ?_, by omega⟩
    congr 2; omega

theorem mag_mono {a b : Nat} (h : a ≤ b) : mag FloatKind.f64.format a ≤ mag FloatKind.f64.format b := by
  rcases Nat.lt_or_eq_of_le h with h | h
  · exact Nat.le_of_lt (mag_lt_mag _ h)
  · rw [h]; exact Nat.le_refl _

theorem mant_le {B n A : Nat} (hq : B ≤ A * n) (hn : 0 < n) : 2 * (B / n) + (B % n != 0).toNat ≤ 2 * A := by
  by_cases hz : B % n = 0
  · have : B / n ≤ A := (Nat.div_le_iff_le_mul_add_pred hn).2 (by rw [Nat.mul_comm n A]; omega)
    rw [hz]; simp; omega
  · have : B / n < A := by
      rw [Nat.div_lt_iff_lt_mul hn]
      rcases Nat.lt_or_eq_of_le hq with h | h
      · exact h
      · exfalso; apply hz; rw [h]; exact Nat.mul_mod_left _ _
    have hb : ∀ b : Bool, b.toNat ≤ 1 := fun b => by cases b <;> simp
    have := hb (B % n != 0)
    omega

/-- A quotient of a number by one that is no less. -/
theorem quo_le {a b : Nat} (hab : a ≤ b) (hb : b < 9218868437227405312) (h0 : b ≠ 0) : bdd 1023 (fop .quo .f64 a b) := by
  obtain ⟨m, i, hda, hi, hm, hma, ha0⟩ := read_pos (show a < 9218868437227405312 by omega)
  obtain ⟨n, j, hdb, hj, hn, hnb, hb0⟩ := read_pos hb
  have hn0 : n ≠ 0 := fun h => h0 (hb0.2 h)
  have hle := mag_mono hab
  rw [← hma, ← hnb] at hle
  rw [fquo_num hda hdb hn0]
  refine bdd_atMost 1023 _ _ _ (by omega) ?_
  by_cases hm0 : m = 0
  · subst hm0; left; simp [Nat.shiftLeft_eq]
  · have hlm : m.log2 ≤ 52 := log2_le (by show _ < 2 ^ 53; rw [show (2 : Nat) ^ 53 = 9007199254740992 by decide]; exact hm)
    obtain ⟨I, hI⟩ := Int.eq_ofNat_of_zero_le (show 0 ≤ i + 1074 by omega)
    obtain ⟨J, hJ⟩ := Int.eq_ofNat_of_zero_le (show 0 ≤ j + 1074 by omega)
    rw [show (i + 1074).toNat = I by omega, show (j + 1074).toNat = J by omega] at hle
    have hlog : m.log2 + I ≤ n.log2 + J := by
      have h1 : 2 ^ (m.log2 + I) ≤ m * 2 ^ I := by rw [Nat.pow_add]; exact Nat.mul_le_mul_right _ (Nat.log2_self_le hm0)
      have h2 : n * 2 ^ J < 2 ^ (n.log2 + 1 + J) := by rw [Nat.pow_add]; exact Nat.mul_lt_mul_of_pos_right Nat.lt_log2_self (Nat.two_pow_pos J)
      have h3 : 2 ^ (m.log2 + I) < 2 ^ (n.log2 + 1 + J) := by omega
      have := (Nat.pow_lt_pow_iff_right (by omega)).1 h3
      omega
    generalize hmore : 54 + n.log2 - m.log2 = more
    obtain ⟨K, hK⟩ : ∃ K, J + more = K + I := ⟨J + more - I, by omega⟩
    have hq : m * 2 ^ more ≤ 2 ^ K * n := by
      have h1 : m * 2 ^ more * 2 ^ I ≤ 2 ^ K * n * 2 ^ I := by
        calc m * 2 ^ more * 2 ^ I = m * 2 ^ I * 2 ^ more := by rw [Nat.mul_assoc, Nat.mul_comm (2 ^ more), ← Nat.mul_assoc]
          _ ≤ n * 2 ^ J * 2 ^ more := Nat.mul_le_mul_right _ hle
          _ = n * 2 ^ (K + I) := by rw [Nat.mul_assoc, ← Nat.pow_add, hK]
          _ = 2 ^ K * n * 2 ^ I := by rw [Nat.pow_add, ← Nat.mul_assoc, Nat.mul_comm n]
      exact Nat.le_of_mul_le_mul_right h1 (Nat.two_pow_pos I)
    have hmant := mant_le hq (show 0 < n by omega)
    rw [Nat.shiftLeft_eq]
    refine .inr ⟨by omega, Nat.le_trans hmant ?_⟩
    rw [Nat.mul_comm, ← Nat.pow_succ]
    exact Nat.pow_le_pow_right (by omega) (by omega)

theorem nn_sq (t : Nat) : nn (fop .mul .f64 t t) := by
  cases h : FloatKind.f64.decode t with
  | nan s q => exact .inl (by rw [fop_nan_l _ _ (show isNan .f64 t = true by unfold isNan; rw [h]; rfl)]; exact isNan_nanW _)
  | infinity s =>
    have h' : FloatKind.f64.format.read t = .infinity s := h
    unfold fop floatBits Format.mul
    simp only [h', Datum.product, Option.map_some, Option.getD_some]
    cases s <;> exact .inr (by decide +kernel)
  | number s m e =>
    rw [fmul_num h h]
    refine .inr ?_
    rw [encode_sign]
    cases s <;> rfl
theorem stepA_bdd {t : Nat} (h : bdd 1023 t) : bdd 1023 (stepA t) := by
  have h1 : big 1023 (fop .add .f64 4607182418800017408 (fop .mul .f64 t t)) := by
    rw [fop_add_comm]; exact big_add (nn_sq t) (.inr (by omega)) (.inr (by omega)) (by omega) (by omega)
  have h1' : big 1 (fop .add .f64 4607182418800017408 (fop .mul .f64 t t)) := by
    rcases h1 with h | h
    · exact .inl h
    · exact .inr (by omega)
  have h2 : big 1023 (fop .add .f64 4607182418800017408 (fsqrt (fop .add .f64 4607182418800017408 (fop .mul .f64 t t)))) := by
    rw [fop_add_comm]; exact big_add (nn_sqrt h1') (.inr (by omega)) (.inr (by omega)) (by omega) (by omega)
  exact bdd_div 1023 h h2 (by omega) (by omega) (by omega) (by omega) (by omega)
theorem stepsA_bdd {t : Nat} (h : bdd 1023 t) : ∀ j, bdd 1023 (stepsA t j)
  | 0 => h
  | j + 1 => stepA_bdd (stepsA_bdd h j)
theorem pA_bdd {u : Nat} (hu : bdd 1023 u) : ∀ j, j ≤ 8 → bdd (1023 + j) (pA u j)
  | 0, _ => .inr (by unfold pA; omega)
  | j + 1, hj => by
    have ih := pA_bdd hu j (by omega)
    unfold pA
    have h1 : bdd 1023 (fop .quo .f64 4607182418800017408 (floatOfInt .f64 (15 - 2 * (j : Int)))) :=
      bdd_div (E := 1023) (D := 1023) 1023 (.inr (by omega)) (fe_big _ (by omega)) (by omega) (by omega) (by omega) (by omega) (by omega)
    have h2 : bdd (1023 + j) (fop .mul .f64 u (pA u j)) := bdd_mul _ hu ih (by omega) (by omega) (by omega) (by omega) (by omega) (by omega)
    exact bdd_mono (bdd_sub (bdd_mono h1 (show 1023 ≤ 1023 + j by omega)) h2 (by omega) (by omega)) (by omega)
theorem ang0_bdd {t : Nat} (h : bdd 1023 t) : bdd 1032 (ang0 t) := by
  have hu : bdd 1023 (fop .mul .f64 t t) := bdd_mul 1023 h h (by omega) (by omega) (by omega) (by omega) (by omega) (by omega)
  have hp := pA_bdd hu 8 (Nat.le_refl _)
  have h1 : bdd 1031 (fop .mul .f64 t (pA (fop .mul .f64 t t) 8)) := bdd_mul 1031 h hp (by omega) (by omega) (by omega) (by omega) (by omega) (by omega)
  have h8 : bdd 1026 4620693217682128896 := .inr (by omega)
  have h2 : bdd 1034 (fop .mul .f64 4620693217682128896 (fop .mul .f64 t (pA (fop .mul .f64 t t) 8))) := bdd_mul 1034 h8 h1 (by omega) (by omega) (by omega) (by omega) (by omega) (by omega)
  exact bdd_div (D := 1025) 1032 h2 (.inr (by omega)) (by omega) (by omega) (by omega) (by omega) (by omega)
theorem ang1_bdd {a b g : Nat} (h : bdd 1032 g) : bdd 1033 (ang1 a b g) := by
  unfold ang1; split
  · exact bdd_sub (.inr (by omega)) h (by omega) (by omega)
  · exact bdd_mono h (by omega)
theorem ang2_bdd {x g : Nat} (h : bdd 1033 g) : bdd 1034 (ang2 x g) := by
  unfold ang2; split
  · exact bdd_sub (.inr (by omega)) h (by omega) (by omega)
  · exact bdd_mono h (by omega)
theorem ang3_bdd {y g : Nat} (h : bdd 1034 g) : bdd 1034 (ang3 y g) := by
  unfold ang3; split
  · exact ng64_bdd h
  · exact h
theorem eqz_abs {x : Nat} (hx : x < 18446744073709551616) (hf : x % 9223372036854775808 < 9218868437227405312) : eqz x = decide (absB x = 0) := by
  unfold eqz
  rw [order64_eq hx (by omega) (by rw [isNan64]; simp; omega) (by decide +kernel)]
  unfold key64 absB
  rw [if_pos (show (0 : Nat) < 9223372036854775808 by omega)]
  congr 1
  exact propext ⟨fun h => by split at h <;> omega, fun h => by split <;> omega⟩
theorem t0F_bdd {a b : Nat} (ha : a < 9218868437227405312) (hb : b < 9218868437227405312) (h0 : ¬ (a = 0 ∧ b = 0)) : bdd 1023 (t0F a b) := by
  unfold t0F
  by_cases h : b < a
  · have : overB a b = true := by unfold overB; rw [pos_gt (by omega) h]; rfl
    rw [if_pos this]
    exact quo_le (Nat.le_of_lt h) ha (by omega)
  · have : overB a b = false := by
      unfold overB
      rcases Nat.lt_or_eq_of_le (Nat.not_lt.1 h) with h1 | h1
      · rw [pos_lt (by omega) h1]; rfl
      · rw [h1, pos_eq (by omega)]; rfl
    rw [this]
    exact quo_le (by omega) hb (by omega)
theorem angle_ov {y x : Nat} (hy : y < 18446744073709551616) (hx : x < 18446744073709551616) : overflows (angleW y x) = false := by
  unfold angleW; split
  · exact bdd_narrow (bdd_nan 2) (by omega)
  · rename_i hf
    have hfy : finW y = true := by revert hf; cases finW y <;> simp
    have hfx : finW x = true := by revert hf; rw [hfy]; cases finW x <;> simp
    have hy2 := (finW_number hfy).2
    have hx2 := (finW_number hfx).2
    split
    · exact bdd_narrow (E := 2) (.inr (by omega)) (by omega)
    · rename_i hz
      refine bdd_narrow (ang3_bdd (ang2_bdd (ang1_bdd (ang0_bdd (stepsA_bdd (t0F_bdd hy2 hx2 ?_) 3))))) (by omega)
      intro ⟨h1, h2⟩
      apply hz
      rw [eqz_abs hx hx2, eqz_abs hy hy2]
      have h1' : absB y = 0 := h1
      have h2' : absB x = 0 := h2
      rw [h1', h2']; rfl

theorem finW_self {y : Nat} (h : finW y = true) : floatBits .sub .f64 y y = some 0 := by
  obtain ⟨_, h2⟩ := finW_number h
  have hd : ∃ s m e, FloatKind.f64.decode y = .number s m e := by
    rw [read64]
    by_cases h1 : y % 9223372036854775808 < 4503599627370496
    · rw [if_pos h1]; exact ⟨_, _, _, rfl⟩
    · rw [if_neg h1, if_pos h2]; exact ⟨_, _, _, rfl⟩
  obtain ⟨s, m, e, hd⟩ := hd
  have hd' : FloatKind.f64.format.read y = .number s m e := hd
  unfold floatBits Format.sub
  simp only [hd', Datum.sum, Datum.opposite, Option.map_some]
  have hc : signed s m (e - min e e).toNat + signed (!s) m (e - min e e).toNat = 0 := by unfold signed; cases s <;> simp <;> omega
  rw [hc, if_pos rfl]
  cases s <;> simp [Format.write, Format.nearest, Format.word]
/-- How a finite number stands to zero, asked before and behind the widening. -/
theorem order_zero (k : FloatKind) {b : Nat} {s : Bool} {m : Nat} {e : Int} (hd : k.decode b = .number s m e) (h0 : k.decode 0 = .number false 0 k.format.leastPlace) : k.format.order b 0 = some (if m = 0 then .eq else if s then .lt else .gt) := by
  have hd' : k.format.read b = .number s m e := hd
  have h0' : k.format.read 0 = .number false 0 k.format.leastPlace := h0
  unfold Format.order
  rw [hd', h0']
  simp only [Datum.order]
  congr 1
  have hz : ∀ u, signed false 0 u = 0 := fun u => by simp [signed]
  rw [hz]
  unfold signed
  rw [Nat.shiftLeft_eq]
  by_cases hm : m = 0
  · subst hm; rw [if_pos rfl]; cases s <;> simp
  · have hp : 0 < m * 2 ^ (e - min e k.format.leastPlace).toNat := Nat.mul_pos (by omega) (Nat.two_pow_pos _)
    generalize m * 2 ^ (e - min e k.format.leastPlace).toNat = A at *
    rw [if_neg hm]
    cases s
    · simp only [Bool.false_eq_true, if_false]; exact Int.compare_eq_gt.2 (by omega)
    · simp only [if_true]; exact Int.compare_eq_lt.2 (by omega)
theorem wide_zero {x : Nat} (h : isFin x = true) : FloatKind.f64.format.order (fwiden x) 0 = FloatKind.f32.format.order x 0 := by
  unfold fwiden
  cases hd : FloatKind.f32.decode x with
  | nan s t =>
    exfalso
    have : isNan .f32 x = true := by unfold isNan; rw [hd]; rfl
    unfold isFin fop at h; rw [floatBits_nan_l _ _ this] at h
    rw [show (Option.none : Option Nat).getD (nanW .f32) = nanW .f32 from rfl, order_nan_left _ (isNan_nanW .f32)] at h; cases h
  | infinity s =>
    exfalso
    have hd' : FloatKind.f32.format.read x = .infinity s := hd
    unfold isFin fop floatBits Format.sub at h
    simp only [hd', Datum.sum, Datum.opposite] at h
    cases s <;> (simp only [Bool.false_eq_true, if_false, Bool.not_false, Bool.not_true, Bool.true_eq_false] at h; revert h; decide +kernel)
  | number s m e =>
    obtain ⟨m', e', _, hd', hv⟩ := widen_finite hd
    simp only []
    rw [order_zero .f64 hd' (by decide +kernel), order_zero .f32 hd (by decide +kernel)]
    have : m' = 0 ↔ m = 0 := by
      constructor
      · intro h0; rw [h0, Nat.zero_mul] at hv
        exact (Nat.mul_eq_zero.1 hv.symm).resolve_right (Nat.ne_of_gt (Nat.two_pow_pos _))
      · intro h0; rw [h0, Nat.zero_mul] at hv
        exact (Nat.mul_eq_zero.1 hv).resolve_right (Nat.ne_of_gt (Nat.two_pow_pos _))
    simp only [this]
end Go.Fl
