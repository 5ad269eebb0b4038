/- The square root of a widened float32 has a float32 near it. No conditions. -/
import Derived.Test.YtpbccoobkmahlaaBound
namespace Go.Fl
open Ieee

/-- math.Sqrt, up to a not-a-number's bits. -/
def fsqrt (x : Nat) : Nat := (FloatKind.f64.format.sqrt x).getD (nanW .f64)

theorem rootFrom_lt (n : Nat) : ∀ todo root : Nat, Datum.rootFrom n todo root < root + 2 ^ todo
  | 0, root => by simp [Datum.rootFrom]
  | todo + 1, root => by
    unfold Datum.rootFrom
    simp only []
    have h := rootFrom_lt n todo root
    have h' := rootFrom_lt n todo (root + 1 <<< todo)
    rw [Nat.shiftLeft_eq, Nat.one_mul] at *
    rw [Nat.pow_succ]
    split <;> omega

theorem log2_le {n k : Nat} (h : n < 2 ^ (k + 1)) : n.log2 ≤ k := by
  by_cases h0 : n = 0
  · subst h0; simp
  · have := (Nat.log2_lt h0).2 h; omega

theorem log2_shift (m k : Nat) (h : m ≠ 0) : (m <<< k).log2 = m.log2 + k := by
  rw [Nat.shiftLeft_eq]
  refine (Nat.log2_eq_iff (Nat.mul_ne_zero h (Nat.ne_of_gt (Nat.two_pow_pos k)))).2 ⟨?_, ?_⟩
  · rw [Nat.pow_add]; exact Nat.mul_le_mul_right _ (Nat.log2_self_le h)
  · rw [show m.log2 + k + 1 = (m.log2 + 1) + k by omega, Nat.pow_add]
    exact Nat.mul_lt_mul_of_pos_right Nat.lt_log2_self (Nat.two_pow_pos k)

theorem root_bdd {s : Bool} {m : Nat} {e : Int} {d : Datum} (h : (Datum.number s m e).root 54 = some d) (hm : m = 0 ∨ e + (m.log2 : Int) ≤ 128) : ∃ s' m' e', d = .number s' m' e' ∧ (m' = 0 ∨ e' + (m'.log2 : Int) ≤ 65) := by
  simp only [Datum.root] at h
  by_cases h0 : m = 0
  · simp only [h0, if_true, Option.some.injEq] at h
    exact ⟨_, _, _, h.symm, .inl rfl⟩
  · rw [if_neg h0] at h
    cases s with
    | true => simp at h
    | false =>
      simp only [Bool.false_eq_true, if_false, Option.some.injEq] at h
      refine ⟨_, _, _, h.symm, .inr ?_⟩
      generalize hmore : 2 * 54 - m.log2 + ((e - (2 * 54 - m.log2 : Nat)) % 2).toNat = more
      have hw := rootFrom_lt (m <<< more) ((m <<< more).log2 / 2 + 1) 0
      generalize Datum.rootFrom (m <<< more) ((m <<< more).log2 / 2 + 1) 0 = whole at *
      rw [log2_shift m more h0, Nat.zero_add] at hw
      have hb : ∀ b : Bool, b.toNat ≤ 1 := fun b => by cases b <;> simp
      have hl : (2 * whole + (whole * whole != m <<< more).toNat).log2 ≤ (m.log2 + more) / 2 + 1 := by
        refine log2_le ?_
        have := hb (whole * whole != m <<< more)
        rw [show (m.log2 + more) / 2 + 1 + 1 = ((m.log2 + more) / 2 + 1) + 1 by omega, Nat.pow_succ]
        omega
      have hle := hm.resolve_left h0
      generalize (2 * whole + (whole * whole != m <<< more).toNat).log2 = l at *
      omega

theorem sqrt_fits (x : Nat) : overflows (fsqrt (fwiden x)) = false := by
  have hinf : ∀ y, (∃ t, FloatKind.f64.decode y = .infinity t) → overflows (fsqrt y) = false := by
    intro y ⟨t, ht⟩
    unfold fsqrt Format.sqrt
    have ht' : FloatKind.f64.format.read y = .infinity t := ht
    rw [ht']
    cases t with
    | true => exact bdd_narrow (bdd_nan 2) (by omega)
    | false => decide +kernel
  have hnan : ∀ y, isNan .f64 y = true → overflows (fsqrt y) = false := by
    intro y hy
    obtain ⟨s, t, hd⟩ := read_nan hy
    unfold fsqrt Format.sqrt
    rw [hd]
    exact bdd_narrow (bdd_nan 2) (by omega)
  have hfin : ∀ y s m e, FloatKind.f64.decode y = .number s m e → (m = 0 ∨ e + (m.log2 : Int) ≤ 128) → overflows (fsqrt y) = false := by
    intro y s m e hd hm
    have hd' : FloatKind.f64.format.read y = .number s m e := hd
    unfold fsqrt Format.sqrt
    rw [hd', show FloatKind.f64.format.fractionBits + 2 = 54 from rfl]
    cases hr : (Datum.number s m e).root 54 with
    | none => exact bdd_narrow (bdd_nan 2) (by omega)
    | some d =>
      obtain ⟨s', m', e', rfl, hb⟩ := root_bdd hr hm
      exact bdd_narrow (E := 1149) (bdd_encode 1149 s' m' e' (by omega) (by omega)) (by omega)
  unfold fwiden
  cases h : FloatKind.f32.decode x with
  | nan s t => exact hnan _ (isNan_nanW _)
  | infinity s =>
    refine hinf _ ⟨s, ?_⟩
    cases s <;> decide +kernel
  | number s m e =>
    obtain ⟨h1, h2, h3⟩ := widen_fits h
    have hb := bdd_encode 1151 s m e (by omega) (.inr (by omega))
    rcases bdd_read hb (by omega) with ⟨s', t, hd⟩ | ⟨s', m', e', hd, hm'⟩
    · obtain ⟨m'', e'', _, hd', _⟩ := widen_finite h
      simp only [] at hd ⊢
      rw [hd'] at hd; cases hd
    · exact hfin _ s' m' e' hd (by omega)
end Go.Fl
