/- The logarithm in 64 bits: what it comes to, and that a float32 lies near it. No conditions. -/
import Derived.Test.YtepanenjhfmoiaaArith
import Derived.Test.YtepanenjhfmoiaaRoot
namespace Go.Fl
open Ieee

theorem ord_lt {x y : Nat} (hx : x < 18446744073709551616) (hy : y < 18446744073709551616) (nx : x % 9223372036854775808 ≤ 9218868437227405312) (ny : y % 9223372036854775808 ≤ 9218868437227405312) (h : key64 x < key64 y) : FloatKind.f64.format.order x y = some .lt := by
  rw [order64 hx hy nx ny, Int.compare_eq_lt.2 h]
theorem ord_gt {x y : Nat} (hx : x < 18446744073709551616) (hy : y < 18446744073709551616) (nx : x % 9223372036854775808 ≤ 9218868437227405312) (ny : y % 9223372036854775808 ≤ 9218868437227405312) (h : key64 y < key64 x) : FloatKind.f64.format.order x y = some .gt := by
  rw [order64 hx hy nx ny, Int.compare_eq_gt.2 h]
theorem ord_eq {x y : Nat} (hx : x < 18446744073709551616) (hy : y < 18446744073709551616) (nx : x % 9223372036854775808 ≤ 9218868437227405312) (ny : y % 9223372036854775808 ≤ 9218868437227405312) (h : key64 x = key64 y) : FloatKind.f64.format.order x y = some .eq := by
  rw [order64 hx hy nx ny, Int.compare_eq_eq.2 h]
/-- Numbers that bear no sign stand as their bits do. -/
theorem pos_lt {x y : Nat} (hy : y ≤ 9218868437227405312) (h : x < y) : FloatKind.f64.format.order x y = some .lt :=
  ord_lt (by omega) (by omega) (by omega) (by omega) (by unfold key64; rw [if_pos (by omega), if_pos (by omega)]; omega)
theorem pos_gt {x y : Nat} (hx : x ≤ 9218868437227405312) (h : y < x) : FloatKind.f64.format.order x y = some .gt :=
  ord_gt (by omega) (by omega) (by omega) (by omega) (by unfold key64; rw [if_pos (by omega), if_pos (by omega)]; omega)
theorem pos_eq {x : Nat} (hx : x ≤ 9218868437227405312) : FloatKind.f64.format.order x x = some .eq :=
  ord_eq (by omega) (by omega) (by omega) (by omega) rfl
theorem notNan_pos {x : Nat} (h : x ≤ 9218868437227405312) : isNan .f64 x = false := by
  rw [isNan64]; simp; omega
theorem is_exact {r v : Nat} (h : Is .f64 r v) (hv : v ≤ 9218868437227405312) : r = v := eq_of_cn h.cn.symm (notNan_pos hv) |>.symm

theorem fe_zero : floatOfInt .f64 0 = 0 := by decide +kernel
theorem fe_sub_fin : ∀ k : Fin 601, fop .sub .f64 (floatOfInt .f64 ((k.val : Int) - 300)) 4607182418800017408 = floatOfInt .f64 ((k.val : Int) - 301) := by decide +kernel
theorem fe_add_fin : ∀ k : Fin 601, fop .add .f64 (floatOfInt .f64 ((k.val : Int) - 300)) 4607182418800017408 = floatOfInt .f64 ((k.val : Int) - 299) := by decide +kernel
theorem fe_sub {d : Int} (h1 : -300 ≤ d) (h2 : d ≤ 300) : fop .sub .f64 (floatOfInt .f64 d) 4607182418800017408 = floatOfInt .f64 (d - 1) := by
  have := fe_sub_fin ⟨(d + 300).toNat, by omega⟩
  have e : (((d + 300).toNat : Nat) : Int) = d + 300 := by omega
  simp only [e] at this
  rw [show d + 300 - 300 = d by omega, show d + 300 - 301 = d - 1 by omega] at this
  exact this
theorem fe_add {d : Int} (h1 : -300 ≤ d) (h2 : d ≤ 300) : fop .add .f64 (floatOfInt .f64 d) 4607182418800017408 = floatOfInt .f64 (d + 1) := by
  have := fe_add_fin ⟨(d + 300).toNat, by omega⟩
  have e : (((d + 300).toNat : Nat) : Int) = d + 300 := by omega
  simp only [e] at this
  rw [show d + 300 - 300 = d by omega, show d + 300 - 299 = d + 1 by omega] at this
  exact this
theorem fe_notNan (d : Int) (h : d.natAbs < 9007199254740992) : isNan .f64 (floatOfInt .f64 d) = false := by
  have hl : d.natAbs.log2 ≤ 52 := log2_le (by show _ < 2 ^ 53; rw [show (2 : Nat) ^ 53 = 9007199254740992 by decide]; exact h)
  have := encode_bdd 1076 (decide (d < 0)) d.natAbs 0 (by omega) (.inr (by omega))
  have e : floatOfInt .f64 d = FloatKind.f64.encode (.number (decide (d < 0)) d.natAbs 0) := rfl
  rw [isNan64, e]
  simp only [decide_eq_false_iff_not]
  omega
theorem fe_is {r : Nat} {d : Int} (h : Is .f64 r (floatOfInt .f64 d)) (hd : d.natAbs < 9007199254740992) : r = floatOfInt .f64 d := (eq_of_cn h.cn.symm (fe_notNan d hd)).symm
theorem fe_bdd (d : Int) (h : d.natAbs ≤ 1024) : bdd 1033 (floatOfInt .f64 d) := by
  refine bdd_atMost 1033 _ _ _ (by omega) ?_
  by_cases h0 : d.natAbs = 0
  · exact .inl h0
  · exact .inr ⟨by omega, by show _ ≤ 2 ^ 10; rw [show (2 : Nat) ^ 10 = 1024 by decide]; exact h⟩
theorem fe_big (d : Int) (h : 1 ≤ d) : big 1023 (floatOfInt .f64 d) := .inr (encode_big 1023 _ _ _ (by omega) (by omega) (by omega) (by omega))

def sL (z : Nat) : Nat := fop .quo .f64 (fop .sub .f64 z 4607182418800017408) (fop .add .f64 z 4607182418800017408)
def qL (u : Nat) : Nat → Nat
  | 0 => 0
  | j + 1 => fop .add .f64 (fop .quo .f64 4607182418800017408 (floatOfInt .f64 (25 - 2 * (j : Int)))) (fop .mul .f64 u (qL u j))
def logFin (z e : Nat) : Nat := fop .add .f64 (fop .mul .f64 4611686018427387904 (fop .mul .f64 (sL z) (qL (fop .mul .f64 (sL z) (sL z)) 13))) (fop .mul .f64 e 4604418534313441775)
/-- How often a number is doubled or halved till it lies near one. -/
def stepsL (x : Nat) : Int := ((x - 2251799813685248 : Nat) / 4503599627370496 : Nat) - (1022 : Int)
def logW (x : Nat) : Nat :=
  if isNan .f64 x then nanW .f64 else if 9223372036854775808 < x then nanW .f64 else if x % 9223372036854775808 = 0 then 18442240474082181120 else if x = 9218868437227405312 then x
  else logFin ((x : Int) - 4503599627370496 * stepsL x).toNat (floatOfInt .f64 (stepsL x))

theorem logW_nan {x : Nat} (h : isNan .f64 x = true) : logW x = nanW .f64 := by unfold logW; rw [if_pos h]
theorem logW_neg {x : Nat} (h : isNan .f64 x = false) (h2 : 9223372036854775808 < x) : logW x = nanW .f64 := by unfold logW; rw [h, if_neg (by simp), if_pos h2]
theorem logW_zero {x : Nat} (h : x = 0 ∨ x = 9223372036854775808) : logW x = 18442240474082181120 := by
  have hn : isNan .f64 x = false := by rw [isNan64]; simp only [decide_eq_false_iff_not]; omega
  unfold logW; rw [hn, if_neg (by simp), if_neg (by omega), if_pos (by omega)]
theorem logW_inf : logW 9218868437227405312 = 9218868437227405312 := by
  unfold logW; rw [notNan_pos (Nat.le_refl _), if_neg (by simp), if_neg (by omega), if_neg (by omega), if_pos rfl]
theorem logW_fin {x z : Nat} {d : Int} (h1 : 3936146074321813504 ≤ x) (h2 : x < 5183643171103440896) (hz1 : 4604930618986332160 ≤ z) (hz2 : z < 4609434218613702656) (h : (z : Int) + 4503599627370496 * d = x) : logW x = logFin z (floatOfInt .f64 d) := by
  unfold logW
  rw [notNan_pos (by omega), if_neg (by simp), if_neg (by omega), if_neg (by omega), if_neg (by omega)]
  have hd : stepsL x = d := by unfold stepsL; omega
  rw [hd, show ((x : Int) - 4503599627370496 * d).toNat = z by omega]

theorem qL_bdd {u : Nat} (hu : bdd 1027 u) : ∀ j, j ≤ 13 → bdd (1024 + 5 * j) (qL u j)
  | 0, _ => .inr (by unfold qL; omega)
  | j + 1, hj => by
    have ih := qL_bdd hu j (by omega)
    unfold qL
    have h1 : bdd 1023 (fop .quo .f64 4607182418800017408 (floatOfInt .f64 (25 - 2 * (j : Int)))) :=
      bdd_div (E := 1023) (D := 1023) 1023 (.inr (by omega)) (fe_big _ (by omega)) (by omega) (by omega) (by omega) (by omega) (by omega)
    have h2 : bdd (1028 + 5 * j) (fop .mul .f64 u (qL u j)) := bdd_mul (1028 + 5 * j) hu ih (by omega) (by omega) (by omega) (by omega) (by omega) (by omega)
    exact bdd_mono (bdd_add (bdd_mono h1 (show 1023 ≤ 1028 + 5 * j by omega)) h2 (by omega) (by omega)) (by omega)
theorem sL_bdd {z : Nat} (hz1 : 4604930618986332160 ≤ z) (hz2 : z < 4609434218613702656) : bdd 1025 (sL z) := by
  have hz : bdd 1024 z := .inr (by omega)
  have one : bdd 1024 4607182418800017408 := .inr (by omega)
  have h1 := bdd_sub hz one (by omega) (by omega)
  have h2 : big 1023 (fop .add .f64 z 4607182418800017408) := big_add (.inr (by omega)) (.inr (by omega)) (.inr (by omega)) (by omega) (by omega)
  exact bdd_div 1025 h1 h2 (by omega) (by omega) (by omega) (by omega) (by omega)
theorem logFin_bdd {z e : Nat} (hz1 : 4604930618986332160 ≤ z) (hz2 : z < 4609434218613702656) (he : bdd 1033 e) : bdd 1149 (logFin z e) := by
  have hs := sL_bdd hz1 hz2
  have hu : bdd 1027 (fop .mul .f64 (sL z) (sL z)) := bdd_mul 1027 hs hs (by omega) (by omega) (by omega) (by omega) (by omega) (by omega)
  have hq := qL_bdd hu 13 (Nat.le_refl _)
  have h1 : bdd 1091 (fop .mul .f64 (sL z) (qL (fop .mul .f64 (sL z) (sL z)) 13)) := bdd_mul 1091 hs hq (by omega) (by omega) (by omega) (by omega) (by omega) (by omega)
  have two : bdd 1024 4611686018427387904 := .inr (by omega)
  have h2 : bdd 1100 (fop .mul .f64 4611686018427387904 (fop .mul .f64 (sL z) (qL (fop .mul .f64 (sL z) (sL z)) 13))) := bdd_mul 1100 two h1 (by omega) (by omega) (by omega) (by omega) (by omega) (by omega)
  have ln : bdd 1023 4604418534313441775 := .inr (by omega)
  have h3 : bdd 1100 (fop .mul .f64 e 4604418534313441775) := bdd_mul 1100 he ln (by omega) (by omega) (by omega) (by omega) (by omega) (by omega)
  exact bdd_mono (bdd_add h2 h3 (by omega) (by omega)) (by omega)

/-- What the widened bits of a float32 are: a not-a-number, of a sign, a zero, infinity, or a normal number of middle size. -/
theorem wide_cases (x : Nat) : isNan .f64 (fwiden x) = true ∨ 9223372036854775808 < fwiden x ∨ (fwiden x = 0 ∨ fwiden x = 9223372036854775808) ∨ fwiden x = 9218868437227405312 ∨ (3936146074321813504 ≤ fwiden x ∧ fwiden x < 5183643171103440896) := by
  unfold fwiden
  cases h : FloatKind.f32.decode x with
  | nan s t => exact .inl (isNan_nanW _)
  | infinity s =>
    cases s with
    | true => exact .inr (.inl (by decide +kernel))
    | false => exact .inr (.inr (.inr (.inl (by decide +kernel))))
  | number s m e =>
    obtain ⟨h1, h2, h3⟩ := widen_fits h
    simp only []
    by_cases hm : m = 0
    · subst hm
      have hw : FloatKind.f64.encode (.number s 0 e) = FloatKind.f64.format.nearest s 0 e := rfl
      rw [hw, nearest_zero, word64]
      cases s
      · exact .inr (.inr (.inl (.inl rfl)))
      · exact .inr (.inr (.inl (.inr rfl)))
    · have hlo := encode_big 874 s m e (by omega) (by omega) hm (by omega)
      have hhi : FloatKind.f64.encode (.number s m e) % 9223372036854775808 < 5183643171103440896 := by
        have e1 : FloatKind.f64.encode (.number s m e) = FloatKind.f64.format.nearest s m e := rfl
        have hf := nearest_fits FloatKind.f64.format s m e hm (by rw [frac64]; omega) (by rw [least64]; omega)
        rw [e1, hf, frac64, least64, binade64, inf64, word64_rung _ _ (Nat.min_le_right _ _)]
        refine Nat.lt_of_le_of_lt (Nat.min_le_left _ _) ?_
        have hmx : max (e + (m.log2 : Int) - (52 : Nat)) (-1074) = e + m.log2 - 52 := by omega
        rw [hmx]
        obtain ⟨K, hK⟩ := Int.eq_ofNat_of_zero_le (show 0 ≤ e + (m.log2 : Int) - 52 - (-1074) by omega)
        have hK' : (e + (m.log2 : Int) - 52 - (-1074)).toNat = K := by omega
        have hd : (e - (e + (m.log2 : Int) - 52)).toNat = 52 - m.log2 := by omega
        rw [hK', hd]
        have := (mag_lt (m := m) (d := 52 - m.log2) (l := 52) hm (by omega)).1
        rw [show (2 : Nat) ^ (52 + 1) = 9007199254740992 by decide] at this
        have hK2 : K ≤ 1149 := by omega
        generalize m * 2 ^ (52 - m.log2) = M at *
        omega
      have hsg := encode_sign s m e
      have hlt := (lt64 _).1 (encode_lt .f64 (.number s m e))
      generalize FloatKind.f64.encode (.number s m e) = X at *
      cases s
      · refine .inr (.inr (.inr (.inr ?_)))
        simp only [Bool.toNat_false] at hsg
        omega
      · refine .inr (.inl ?_)
        simp only [Bool.toNat_true] at hsg
        omega
theorem log_ov (x : Nat) : overflows (logW (fwiden x)) = false := by
  have hlt : fwiden x < 18446744073709551616 := by
    unfold fwiden; split
    · exact nanW_lt .f64
    · exact encode_lt .f64 _
  rcases wide_cases x with h | h | h | h | ⟨h1, h2⟩
  · rw [logW_nan h]; exact bdd_narrow (bdd_nan 2) (by omega)
  · cases hn : isNan .f64 (fwiden x)
    · rw [logW_neg hn h]; exact bdd_narrow (bdd_nan 2) (by omega)
    · rw [logW_nan hn]; exact bdd_narrow (bdd_nan 2) (by omega)
  · rw [logW_zero h]; decide +kernel
  · rw [h, logW_inf]; decide +kernel
  · rw [logW_fin (z := ((fwiden x : Int) - 4503599627370496 * stepsL (fwiden x)).toNat) (d := stepsL (fwiden x)) h1 h2 (by unfold stepsL; omega) (by unfold stepsL; omega) (by unfold stepsL; omega)]
    exact bdd_narrow (logFin_bdd (by unfold stepsL; omega) (by unfold stepsL; omega) (fe_bdd _ (by unfold stepsL; omega))) (by omega)
end Go.Fl
