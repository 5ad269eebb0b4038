/- The contracts of the small functions on vectors that this claim reaches. No conditions but that bits fit their kind. -/
import Derived.Test.YtncmpbgekmaoeaaDoorNum
import Derived.Deep.RegionHeld3
namespace Go.Proofs.YtncmpbgekmaoeaaDoor
open Go.Fl Go.RowKit

theorem ne2 (a : Nat) : (a = a + 1 + 1) = False := by simp; omega
theorem en2 (a : Nat) : (a + 1 + 1 = a) = False := by simp; omega
theorem ne3 (a : Nat) : (a = a + 1 + 1 + 1) = False := by simp; omega
theorem en3 (a : Nat) : (a + 1 + 1 + 1 = a) = False := by simp; omega
theorem ne4 (a : Nat) : (a = a + 1 + 1 + 1 + 1) = False := by simp; omega
theorem en4 (a : Nat) : (a + 1 + 1 + 1 + 1 = a) = False := by simp; omega
theorem bcell {W w1 : World} (hb : Below W.heap.size W w1) : (∀ b o, b < W.heap.size → w1.cell? ⟨b, o, none⟩ = W.cell? ⟨b, o, none⟩) ∧ (∀ b o, b < W.heap.size → w1.frozen? ⟨b, o, none⟩ = W.frozen? ⟨b, o, none⟩) :=
  ⟨fun b o h => hb.cell (p := ⟨b, o, none⟩) h, fun b o h => hb.frozen (p := ⟨b, o, none⟩) h⟩

end Go.Proofs.YtncmpbgekmaoeaaDoor
