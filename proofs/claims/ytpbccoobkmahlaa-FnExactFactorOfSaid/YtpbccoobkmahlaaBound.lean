/- How great the numbers are that operations on floats come to: bounds on a result's bits. No conditions but those bounds. -/
import Derived.Test.YtpbccoobkmahlaaOrd
namespace Go.Fl
open Ieee

theorem cut_le (neg : Bool) (n d L : Nat) (h : n < 2 ^ (L + d)) : Toward.even.cut neg n d ≤ 2 ^ L := by
  unfold Toward.cut
  simp only []
  have hgap : (1 <<< min d (n.log2 + 2)) = 2 ^ min d (n.log2 + 2) := by rw [Nat.shiftLeft_eq, Nat.one_mul]
  rw [hgap]
  have hlow : n / 2 ^ min d (n.log2 + 2) < 2 ^ L := by
    rcases Nat.le_total d (n.log2 + 2) with h1 | h1
    · rw [Nat.min_eq_left h1]
      exact Nat.div_lt_of_lt_mul (by rwa [Nat.mul_comm, ← Nat.pow_add])
    · rw [Nat.min_eq_right h1]
      have h2 : n < 2 ^ (n.log2 + 2) := Nat.lt_of_lt_of_le Nat.lt_log2_self (Nat.pow_le_pow_right (by omega) (by omega))
      rw [Nat.div_eq_of_lt h2]
      exact Nat.two_pow_pos _
  have hb : ∀ b : Bool, b.toNat ≤ 1 := fun b => by cases b <;> simp
  have := hb (decide (2 ^ min d (n.log2 + 2) < 2 * (n % 2 ^ min d (n.log2 + 2))) || 2 ^ min d (n.log2 + 2) == 2 * (n % 2 ^ min d (n.log2 + 2)) && n / 2 ^ min d (n.log2 + 2) % 2 == 1)
  omega

/-- The rung of what 'nearest' gives is bounded by where the number's first digit stands. -/
theorem nearest_rung (f : Format) (neg : Bool) (mg : Nat) (place : Int) :
    ∃ r, f.nearest neg mg place = f.word neg r ∧ r ≤ (max (place + mg.log2 - f.fractionBits) f.leastPlace - f.leastPlace).toNat * f.binade + 2 * f.binade ∧ r ≤ f.infRung := by
  unfold Format.nearest
  by_cases h0 : mg = 0
  · rw [if_pos h0]; exact ⟨0, rfl, by omega, Nat.zero_le _⟩
  · rw [if_neg h0]
    simp only []
    refine ⟨_, rfl, ?_, Nat.min_le_right _ _⟩
    refine Nat.le_trans (Nat.min_le_left _ _) (Nat.add_le_add_left ?_ _)
    have e2 : 2 * f.binade = 2 ^ (f.fractionBits + 1) := by unfold Format.binade; rw [Nat.pow_succ, Nat.mul_comm]
    rw [e2]
    generalize hl : max (place + (mg.log2 : Int) - f.fractionBits) f.leastPlace = last
    have hge : place + (mg.log2 : Int) - f.fractionBits ≤ last := by omega
    rw [Nat.shiftLeft_eq]
    have h1 : mg < 2 ^ (mg.log2 + 1) := Nat.lt_log2_self
    refine cut_le neg _ _ _ ?_
    calc mg * 2 ^ (place - last).toNat < 2 ^ (mg.log2 + 1) * 2 ^ (place - last).toNat := Nat.mul_lt_mul_of_pos_right h1 (Nat.two_pow_pos _)
      _ = 2 ^ (mg.log2 + 1 + (place - last).toNat) := (Nat.pow_add 2 _ _).symm
      _ ≤ _ := Nat.pow_le_pow_right (by omega) (by omega)

/-- 'x' is a not-a-number, or of at most 2 to the power of E - 1023. -/
def bdd (E : Nat) (x : Nat) : Prop := isNan .f64 x = true ∨ x % 9223372036854775808 ≤ E * 4503599627370496

theorem word64_rung (neg : Bool) (r : Nat) (h : r ≤ 9218868437227405312) : FloatKind.f64.format.word neg r % 9223372036854775808 = r := by
  rw [word64]; split <;> omega

/-- What is written of a number whose first digit stands low enough. -/
theorem encode_bdd (E : Nat) (neg : Bool) (m : Nat) (place : Int) (hE : 2 ≤ E) (h : m = 0 ∨ place + m.log2 + 1024 ≤ E) : FloatKind.f64.encode (.number neg m place) % 9223372036854775808 ≤ E * 4503599627370496 := by
  obtain ⟨r, hr, h1, h2⟩ := nearest_rung FloatKind.f64.format neg m place
  rw [frac64, least64, binade64] at h1
  rw [inf64] at h2
  have e : FloatKind.f64.encode (.number neg m place) = FloatKind.f64.format.nearest neg m place := rfl
  rw [e, hr, word64_rung _ _ h2]
  rcases h with rfl | h
  · have hz : FloatKind.f64.format.nearest neg 0 place = FloatKind.f64.format.word neg 0 := nearest_zero _ _ _
    rw [hz] at hr
    have := congrArg (· % 9223372036854775808) hr
    simp only [word64_rung _ _ h2, word64_rung neg 0 (Nat.zero_le _)] at this
    rw [← this]; exact Nat.zero_le _
  · refine Nat.le_trans h1 ?_
    rw [← Nat.add_mul]
    refine Nat.mul_le_mul_right _ ?_
    omega

theorem bdd_encode (E : Nat) (neg : Bool) (m : Nat) (place : Int) (hE : 2 ≤ E) (h : m = 0 ∨ place + m.log2 + 1024 ≤ E) : bdd E (FloatKind.f64.encode (.number neg m place)) := .inr (encode_bdd E neg m place hE h)
theorem bdd_nan (E : Nat) : bdd E (nanW .f64) := .inl (isNan_nanW _)

/-- What a number that is bounded stands for. -/
theorem bdd_read {E x : Nat} (h : bdd E x) (hE : E ≤ 2046) : (∃ s t, FloatKind.f64.decode x = .nan s t) ∨ ∃ s m e, FloatKind.f64.decode x = .number s m e ∧ (m = 0 ∨ e + (m.log2 : Int) + 1023 ≤ E) := by
  rcases h with h | h
  · exact .inl (decode_of_isNan h)
  · right
    rw [read64]
    generalize x % 9223372036854775808 = r at *
    by_cases h1 : r < 4503599627370496
    · rw [if_pos h1]
      refine ⟨_, _, _, rfl, ?_⟩
      by_cases h0 : r = 0
      · exact .inl h0
      · right
        have := (Nat.log2_lt h0).2 (show r < 2 ^ 52 from h1)
        omega
    · rw [if_neg h1, if_pos (by omega)]
      refine ⟨_, _, _, rfl, .inr ?_⟩
      have h3 : 4503599627370496 + r % 4503599627370496 < 2 ^ 53 := by
        have := Nat.mod_lt r (show 0 < 4503599627370496 by omega)
        show _ < 9007199254740992
        omega
      have h4 := (Nat.log2_lt (show 4503599627370496 + r % 4503599627370496 ≠ 0 by omega)).2 h3
      have h5 : r / 4503599627370496 ≤ E := by
        have := Nat.div_le_div_right (c := 4503599627370496) h
        rwa [Nat.mul_div_cancel _ (by omega)] at this
      generalize (4503599627370496 + r % 4503599627370496).log2 = l at *
      generalize r / 4503599627370496 = q at *
      omega

/-- A number of at most 2 to the power of 126 has a float32 near it. -/
theorem bdd_narrow {E x : Nat} (h : bdd E x) (hE : E ≤ 1149) : overflows x = false := by
  unfold overflows
  rcases bdd_read h (by omega) with ⟨s, t, hd⟩ | ⟨s, m, e, hd, hm⟩
  · rw [hd]
  · rw [hd]
    simp only []
    obtain ⟨r, hr, h1, h2⟩ := nearest_rung FloatKind.f32.format s m e
    rw [frac32, least32, binade32] at h1
    have e1 : FloatKind.f32.encode (.number s m e) = FloatKind.f32.format.nearest s m e := rfl
    rw [e1, hr, word32, read32]
    have hlt : r < 2139095040 := by
      rcases hm with rfl | hm
      · have hz : FloatKind.f32.format.nearest s 0 e = FloatKind.f32.format.word s 0 := nearest_zero _ _ _
        rw [hz, word32, word32] at hr
        rw [inf32] at h2
        split at hr <;> omega
      · have : (max (e + (m.log2 : Int) - (23 : Nat)) (-149) - (-149)).toNat ≤ 252 := by omega
        have := Nat.mul_le_mul_right 8388608 this
        omega
    have hmod : (if s = true then 2147483648 + r else r) % 2147483648 = r := by split <;> omega
    rw [hmod]
    by_cases h3 : r < 8388608
    · rw [if_pos h3]; rfl
    · rw [if_neg h3, if_pos hlt]; rfl
end Go.Fl
