/- Two vectors with the same numbers are told to be the same. No conditions but that bits fit their kind. -/
import Derived.Test.YtpbccoobkmahlaaVec
import Derived.Deep.DeepCutAuto
namespace Go.Proofs.Ytpbccoobkmahlaa
open Go.Fl Go.RowKit

theorem lt2 (a : Nat) : (a < a + 1 + 1) = True := by simp; omega
theorem lt3 (a : Nat) : (a < a + 1 + 1 + 1) = True := by simp; omega
theorem lt4 (a : Nat) : (a < a + 1 + 1 + 1 + 1) = True := by simp; omega

theorem two_keep {w W w1 : World} {v0 v1 v2 v3 v4 v5 : Value} (hb : Below W.heap.size W w1) (h : w.heap.size < W.heap.size ∧ w.heap.size + 1 < W.heap.size ∧ W.cell? ⟨w.heap.size, 0, none⟩ = some v0 ∧ W.cell? ⟨w.heap.size, 1, none⟩ = some v1 ∧ W.cell? ⟨w.heap.size, 2, none⟩ = some v2 ∧ W.cell? ⟨w.heap.size + 1, 0, none⟩ = some v3 ∧ W.cell? ⟨w.heap.size + 1, 1, none⟩ = some v4 ∧ W.cell? ⟨w.heap.size + 1, 2, none⟩ = some v5) : w.heap.size < w1.heap.size ∧ w.heap.size + 1 < w1.heap.size ∧ w1.cell? ⟨w.heap.size, 0, none⟩ = some v0 ∧ w1.cell? ⟨w.heap.size, 1, none⟩ = some v1 ∧ w1.cell? ⟨w.heap.size, 2, none⟩ = some v2 ∧ w1.cell? ⟨w.heap.size + 1, 0, none⟩ = some v3 ∧ w1.cell? ⟨w.heap.size + 1, 1, none⟩ = some v4 ∧ w1.cell? ⟨w.heap.size + 1, 2, none⟩ = some v5 :=
  ⟨Nat.lt_of_lt_of_le h.1 hb.size, Nat.lt_of_lt_of_le h.2.1 hb.size, (hb.cell (p := ⟨w.heap.size, 0, none⟩) h.1).trans h.2.2.1, (hb.cell (p := ⟨w.heap.size, 1, none⟩) h.1).trans h.2.2.2.1, (hb.cell (p := ⟨w.heap.size, 2, none⟩) h.1).trans h.2.2.2.2.1,
    (hb.cell (p := ⟨w.heap.size + 1, 0, none⟩) h.2.1).trans h.2.2.2.2.2.1, (hb.cell (p := ⟨w.heap.size + 1, 1, none⟩) h.2.1).trans h.2.2.2.2.2.2.1, (hb.cell (p := ⟨w.heap.size + 1, 2, none⟩) h.2.1).trans h.2.2.2.2.2.2.2⟩

theorem two_set {w W : World} {p : Addr} {u v0 v1 v2 v3 v4 v5 : Value} (h : w.heap.size < W.heap.size ∧ w.heap.size + 1 < W.heap.size ∧ W.cell? ⟨w.heap.size, 0, none⟩ = some v0 ∧ W.cell? ⟨w.heap.size, 1, none⟩ = some v1 ∧ W.cell? ⟨w.heap.size, 2, none⟩ = some v2 ∧ W.cell? ⟨w.heap.size + 1, 0, none⟩ = some v3 ∧ W.cell? ⟨w.heap.size + 1, 1, none⟩ = some v4 ∧ W.cell? ⟨w.heap.size + 1, 2, none⟩ = some v5) (hp : w.heap.size + 1 < p.block) : w.heap.size < (W.setCell p u).heap.size ∧ w.heap.size + 1 < (W.setCell p u).heap.size ∧ (W.setCell p u).cell? ⟨w.heap.size, 0, none⟩ = some v0 ∧ (W.setCell p u).cell? ⟨w.heap.size, 1, none⟩ = some v1 ∧ (W.setCell p u).cell? ⟨w.heap.size, 2, none⟩ = some v2 ∧ (W.setCell p u).cell? ⟨w.heap.size + 1, 0, none⟩ = some v3 ∧ (W.setCell p u).cell? ⟨w.heap.size + 1, 1, none⟩ = some v4 ∧ (W.setCell p u).cell? ⟨w.heap.size + 1, 2, none⟩ = some v5 := by
  have far : ∀ b o, b < w.heap.size + 2 → (W.setCell p u).cell? ⟨b, o, none⟩ = W.cell? ⟨b, o, none⟩ := fun b o hb => World.cell?_setCell_far _ _ _ _ (by show p.block ≠ b; omega)
  have hs : (W.setCell p u).heap.size = W.heap.size := by simp [World.setCell]
  rw [hs, far _ _ (by omega), far _ _ (by omega), far _ _ (by omega), far _ _ (by omega), far _ _ (by omega), far _ _ (by omega)]
  exact h

theorem two_realloc {w W : World} {o o' : Obj} {v0 v1 v2 v3 v4 v5 : Value} (h : w.heap.size < (W.alloc o).heap.size ∧ w.heap.size + 1 < (W.alloc o).heap.size ∧ (W.alloc o).cell? ⟨w.heap.size, 0, none⟩ = some v0 ∧ (W.alloc o).cell? ⟨w.heap.size, 1, none⟩ = some v1 ∧ (W.alloc o).cell? ⟨w.heap.size, 2, none⟩ = some v2 ∧ (W.alloc o).cell? ⟨w.heap.size + 1, 0, none⟩ = some v3 ∧ (W.alloc o).cell? ⟨w.heap.size + 1, 1, none⟩ = some v4 ∧ (W.alloc o).cell? ⟨w.heap.size + 1, 2, none⟩ = some v5) (hp : w.heap.size + 1 < W.heap.size) : w.heap.size < (W.alloc o').heap.size ∧ w.heap.size + 1 < (W.alloc o').heap.size ∧ (W.alloc o').cell? ⟨w.heap.size, 0, none⟩ = some v0 ∧ (W.alloc o').cell? ⟨w.heap.size, 1, none⟩ = some v1 ∧ (W.alloc o').cell? ⟨w.heap.size, 2, none⟩ = some v2 ∧ (W.alloc o').cell? ⟨w.heap.size + 1, 0, none⟩ = some v3 ∧ (W.alloc o').cell? ⟨w.heap.size + 1, 1, none⟩ = some v4 ∧ (W.alloc o').cell? ⟨w.heap.size + 1, 2, none⟩ = some v5 := by
  have far : ∀ (q : Obj) (b i : Nat), b < w.heap.size + 2 → (W.alloc q).cell? ⟨b, i, none⟩ = W.cell? ⟨b, i, none⟩ := fun q b i hb => (bl_alloc (bl_refl W) q).cell (p := ⟨b, i, none⟩) (by show b < W.heap.size; omega)
  have hs : ∀ q : Obj, (W.alloc q).heap.size = W.heap.size + 1 := fun q => by simp
  rw [hs, far _ _ _ (by omega), far _ _ _ (by omega), far _ _ _ (by omega), far _ _ _ (by omega), far _ _ _ (by omega), far _ _ _ (by omega)] at h ⊢
  exact h

/-- A slot that leads to a vector's three cells in a block of the call's own. -/
def VecAt (w : World) (X Y Z : Nat) (s : Value) (wx : World) : Prop := ∃ g r s' t, s = .pointer (some ⟨g, 0, none⟩) ∧ w.heap.size + 1 < g ∧ g < wx.heap.size ∧
  wx.cell? ⟨g, 0, none⟩ = some (.float .f32 r) ∧ wx.cell? ⟨g, 1, none⟩ = some (.float .f32 s') ∧ wx.cell? ⟨g, 2, none⟩ = some (.float .f32 t) ∧ Is .f32 r X ∧ Is .f32 s' Y ∧ Is .f32 t Z
end Go.Proofs.Ytpbccoobkmahlaa
