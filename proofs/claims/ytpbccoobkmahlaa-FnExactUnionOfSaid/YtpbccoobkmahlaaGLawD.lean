/- For a law whose call's region draws its order: what the region leaves. No conditions. -/
import Derived.Test.YtpbccoobkmahlaaGLawN
import Derived.Test.YtpbccoobkmahlaaJoinI
namespace Go.Proofs.Ytpbccoobkmahlaa
open Go.Fl Go.RowKit

namespace GL
def DCut (W : World) (b : Bool) (M : List Nd) (sc sb : Value) (wx : World) : Prop := sb = .bool b ∧ ∃ g a n lo hi, sc = .pointer (some ⟨g, 0, none⟩) ∧ wx.cell? ⟨g, 0, none⟩ = some (.slice a M.length n) ∧ OwnSh wx lo hi (.slice a M.length n) M ∧ W.heap.size ≤ lo ∧ hi ≤ wx.heap.size ∧ (g < lo ∨ hi ≤ g) ∧ W.heap.size ≤ g ∧ Below W.heap.size W wx
theorem DCut.new {W w4 : World} {b : Bool} {M : List Nd} {sc sb : Value} {a : Option Addr} {n lo : Nat} (h1 : sb = .bool b) (h2 : sc = .pointer (some ⟨w4.heap.size, 0, none⟩)) (h : OwnSh w4 lo w4.heap.size (.slice a M.length n) M) (hb : Below W.heap.size W w4) (hl : W.heap.size ≤ lo) :
    DCut W b M sc sb (w4.alloc (.cells #[.slice a M.length n] 26)) :=
  ⟨h1, w4.heap.size, a, n, lo, w4.heap.size, h2, box1 _ _ _, h.keep (bl1 _ _), hl, by simp, .inr (Nat.le_refl _), hb.size, bl_alloc hb _⟩
theorem DCut.low {W w4 : World} {b : Bool} {M : List Nd} {sc sb : Value} {a : Option Addr} {n lo g : Nat} (h1 : sb = .bool b) (h2 : sc = .pointer (some ⟨g, 0, none⟩)) (hz : Bl1 w4 g (.slice none 0 0)) (h : OwnSh w4 lo w4.heap.size (.slice a M.length n) M) (hb : Below W.heap.size W w4) (hg : g < lo) (hW : W.heap.size ≤ g) :
    DCut W b M sc sb (w4.setCell ⟨g, 0, none⟩ (.slice a M.length n)) :=
  ⟨h1, g, a, n, lo, w4.heap.size, h2, (Bl1.set hz _).cell, h.low (p := ⟨g, 0, none⟩) hg _, by omega, by simp [World.setCell], .inl hg, hW, bl_set hb hW _⟩
end GL
end Go.Proofs.Ytpbccoobkmahlaa
