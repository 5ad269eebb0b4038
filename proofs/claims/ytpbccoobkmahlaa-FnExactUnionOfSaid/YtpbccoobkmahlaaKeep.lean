/- Small facts on what stays in memory, for the laws on shapes. No conditions. -/
import Derived.Test.YtpbccoobkmahlaaOwn
namespace Go.Proofs.Ytpbccoobkmahlaa
open Go.Fl Go.RowKit

theorem cellk {w w' : World} {p : Addr} {v : Value} (h : w.cell? p = some v) (hb : Below w.heap.size w w') : w'.cell? p = some v :=
  (hb.cell (World.block_lt_of_cell? w _ h)).trans h
theorem cellW {w w' : World} {lo hi : Nat} {p : Addr} {v : Value} (h : w.cell? p = some v) (hb : Within lo hi w w') (hp : p.block < lo ∨ hi ≤ p.block) : w'.cell? p = some v :=
  (World.cell?_of_block (w := w) (hb.block p.block (World.block_lt_of_cell? w _ h) hp)).trans h
theorem box1 (w : World) (v : Value) (t : TypeId) : (w.alloc (.cells #[v] t)).cell? ⟨w.heap.size, 0, none⟩ = some v :=
  (cell_of_row _ _ 0 #[v] t (0, 0) (heap_alloc_new w _)).trans rfl
theorem box1of2 (w : World) (v u : Value) (t t' : TypeId) : ((w.alloc (.cells #[v] t)).alloc (.cells #[u] t')).cell? ⟨w.heap.size, 0, none⟩ = some v :=
  (cell_of_row _ _ 0 #[v] t (0, 0) ((Below.heap_alloc _ _ _ (by simp)).trans (heap_alloc_new w _))).trans rfl
theorem box2of2 (w : World) (v u : Value) (t t' : TypeId) : ((w.alloc (.cells #[v] t)).alloc (.cells #[u] t')).cell? ⟨w.heap.size + 1, 0, none⟩ = some u := by
  have e : w.heap.size + 1 = (w.alloc (.cells #[v] t)).heap.size := by simp
  rw [e]; exact box1 _ _ _
theorem bl2 (w : World) (o o' : Obj) : Below w.heap.size w ((w.alloc o).alloc o') := bl_alloc (bl_alloc (bl_refl w) _) _
theorem bl1 (w : World) (o : Obj) : Below w.heap.size w (w.alloc o) := bl_alloc (bl_refl w) _
theorem nneg (n : Nat) : decide (((n : Nat) : Int) < 0) = false := by simp
theorem beq_self_bool (b : Bool) : (b != b) = false := by simp
end Go.Proofs.Ytpbccoobkmahlaa
