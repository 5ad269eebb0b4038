/- A slice of numbers that came in, opened. No conditions. -/
import Derived.Test.YtpbccoobkmahlaaSl
namespace Go.Proofs.Ytpbccoobkmahlaa
open Go.Fl Go.RowKit
section
open Go.WideShapes Go.ChangeShapes Go.Deep
variable {H : Type} {enc : TypeId × Value → H} {P : Program} {w : World} {base : Nat} {spare : Nat → Bool} {held : Bool}
theorem cell_spot {a : Addr} {v : Value} (h : w.cell? a = some v) : a.spot = none := by
  unfold World.cell? at h
  cases hs : a.spot with
  | none => rfl
  | some s => rw [hs] at h; simp at h; split at h <;> simp_all
theorem add_zero' (a : Addr) : a.add 0 = a := by unfold Addr.add; rw [if_pos rfl]
theorem add_eq (b o i : Nat) : (⟨b, o, none⟩ : Addr).add i = ⟨b, o + i, none⟩ := by
  unfold Addr.add
  split
  · subst_vars; rfl
  · rfl
/-- Choices below a bound, as a list. -/
theorem list_of {α : Type} (z : α) {p : Nat → α → Prop} (n : Nat) (h : ∀ i, i < n → ∃ b, p i b) : ∃ xs : List α, xs.length = n ∧ ∀ i, i < n → p i (xs.getD i z) := by
  induction n with
  | zero => exact ⟨[], rfl, fun i hi => by omega⟩
  | succ n ih =>
    obtain ⟨xs, hl, hx⟩ := ih (fun i hi => h i (by omega))
    obtain ⟨b, hb⟩ := h n (by omega)
    refine ⟨xs ++ [b], by simp [hl], fun i hi => ?_⟩
    by_cases hin : i < n
    · have := hx i hin
      rwa [List.getD, List.getElem?_append_left (by omega)]
    · obtain rfl : i = n := by omega
      rw [List.getD, List.getElem?_append_right (by omega), hl, Nat.sub_self]
      exact hb
theorem open_f32sb {r : Reach} {b0 : Nat} {t e : TypeId} {v : Value} {d : DataW H} {p : List MemPlace} (ht : P.underlying t = some (.slice e)) (he : P.underlying e = some (.float .f32)) (hc : P.cellsOf e = 1)
    (hv : Value.okWide P w r b0 t v) (h : DataW.Trod enc P w base spare held t v d p) : ∃ xs, FIn w v xs ∧ ∀ x ∈ xs, x < 4294967296 := by
  obtain ⟨a0, len, cap, rfl⟩ := okWide_slice ht hv
  obtain ⟨fuel, hf⟩ := h
  rcases open_slice1 ht hc hf with ⟨hcs, _⟩ | ⟨a, l, c, m, n, V, D, Pl, hcs, _, hl, _, hm, _, hx⟩
  · simp [Value.cells] at hcs
    obtain ⟨rfl, rfl, rfl⟩ := hcs
    exact ⟨[], ⟨none, 0, rfl, .inl rfl⟩, by simp⟩
  · simp [Value.cells] at hcs
    obtain ⟨rfl, rfl, rfl⟩ := hcs
    have hle : len ≤ m := by rw [hm]; split <;> omega
    have each : ∀ i, i < len → ∃ b, w.cell? (a.add i) = some (.float .f32 b) ∧ b < 4294967296 := by
      intro i hi
      obtain ⟨h1, h2⟩ := hx i (by omega)
      obtain ⟨b, hb, _, hlt⟩ := trod_float he h2
      simp only [List.cons.injEq, and_true] at hb
      exact ⟨b, by rw [h1, hb], (lt32 b).1 hlt⟩
    obtain ⟨xs, hxl, hxs⟩ := list_of 0 len each
    subst hxl
    refine ⟨xs, ⟨some a, cap, rfl, ?_⟩, fun x hx => ?_⟩
    · rcases Nat.eq_zero_or_pos xs.length with h0 | h0
      · exact .inl (List.length_eq_zero_iff.1 h0)
      · have hs := cell_spot (by have := (hxs 0 h0).1; rwa [add_zero'] at this)
        obtain ⟨b, o, s⟩ := a
        simp only at hs
        subst hs
        exact .inr ⟨b, o, rfl, fun i hi => by rw [← add_eq]; exact (hxs i hi).1⟩
    · obtain ⟨i, hi, rfl⟩ := List.mem_iff_getElem.1 hx
      have := (hxs i hi).2
      simpa [List.getD, hi] using this
theorem open_f32s {r : Reach} {b0 : Nat} {t e : TypeId} {v : Value} {d : DataW H} {p : List MemPlace} (ht : P.underlying t = some (.slice e)) (he : P.underlying e = some (.float .f32)) (hc : P.cellsOf e = 1)
    (hv : Value.okWide P w r b0 t v) (h : DataW.Trod enc P w base spare held t v d p) : ∃ xs, FIn w v xs := by
  obtain ⟨xs, h, _⟩ := open_f32sb ht he hc hv h
  exact ⟨xs, h⟩
end
end Go.Proofs.Ytpbccoobkmahlaa
