/- A region in whatever order, whose operations read and whose callees may make memory of their own: one walk. No conditions. -/
import Derived.Test.YtpbccoobkmahlaaKeep
import Derived.BigQuiet
namespace Go.Proofs.Ytpbccoobkmahlaa
open Go.Fl Go.RowKit

/-- A world in which nothing of w has turned. -/
structure BW (w : World) where
  W : World
  h : Below w.heap.size w W
instance (w : World) : Inhabited (BW w) := ⟨⟨w, bl_refl w⟩⟩
theorem wp_region_bw {P : Program} {id : Nat} {Q : Exit → Act → World → Prop} {a : Act} {w : World} {l : List Oper} (hm : P.follows .mixedOrders = true) (hB : Region.lexB .any l.toArray = true)
    (h : wpQuiet P l.toArray (fun w' => ∃ p : BW w, w' = p.W) (fun a' => ∀ w', (∃ p : BW w, w' = p.W) → Q .normal a' w') l a) : (Code.region id l.toArray true).wp P Q a w :=
  wp_region_quiet (C := fun w' => ∃ p : BW w, w' = p.W) hm hB ⟨⟨w.drew, bl_drew (bl_refl w)⟩, rfl⟩ (by simpa using h)
theorem BW.calls {P : Program} {f : FuncId} {args : Array Value} {w : World} {p : BW w} {v : Value}
    (h : Calls P f args p.W fun e w' => e = .returned v ∧ Below p.W.heap.size p.W w') : Calls P f args p.W fun e w'' => e = .returned v ∧ ∃ q : BW w, w'' = q.W :=
  h.mono fun _ w' ⟨he, hb⟩ => ⟨he, ⟨w', bl_call p.h hb⟩, rfl⟩
theorem BW.same {P : Program} {f : FuncId} {args : Array Value} {w : World} {p : BW w} {v : Value}
    (h : Calls P f args p.W fun e w' => e = .returned v ∧ w' = p.W) : Calls P f args p.W fun e w'' => e = .returned v ∧ ∃ q : BW w, w'' = q.W :=
  h.mono fun _ _ ⟨he, hb⟩ => ⟨he, p, hb⟩
theorem BW.out {P : Program} {f : FuncId} {args : Array Value} {w : World} {p : BW w} {b : Bool}
    (h : Calls P f args p.W (BOut p.W b)) : Calls P f args p.W fun e w'' => e = .returned (.bool b) ∧ ∃ q : BW w, w'' = q.W :=
  BW.calls (h.mono fun _ _ hh => hh.below)
theorem BW.cell {w : World} {a : Addr} {v : Value} (h : w.cell? a = some v) (p : BW w) : p.W.cell? a = some v := cellk h p.h
end Go.Proofs.Ytpbccoobkmahlaa
