/- For the laws of calls that give a shape of shapes: their arguments and their marks. No conditions but bounds. -/
import Derived.Test.YtpbccoobkmahlaaGLaw
import Derived.Test.YtpbccoobkmahlaaWrapI
import Derived.Deep.Cut
import Derived.Deep.DeepCutAuto
namespace Go.Proofs.Ytpbccoobkmahlaa
open Go.Fl Go.RowKit

namespace GL
theorem NumV_row {w : World} {B g n : Nat} {xs : List Nat} (hn : n = xs.length) (h : w.ownsRow B 61 1 (.slice (some ⟨g, 0, none⟩) n n) n (xs.map (Value.float .f32))) : NumV w (.slice (some ⟨g, 0, none⟩) xs.length xs.length) xs := by
  subst hn
  exact ⟨⟨⟨0, 0, 0, xs⟩, _, g⟩, rfl, rfl, _, _, rfl, .inr ⟨rfl, (h.lt g rfl).2, own_mono h (Nat.zero_le _)⟩⟩
theorem keepB {w w1 w2 : World} {p q : Addr} {v u : Value} {L : List Nd} (h : w1.cell? p = some v ∧ w1.cell? q = some u ∧ NodesIn w1 u L ∧ Below w.heap.size w w1) (hb : Below w1.heap.size w1 w2) :
    w2.cell? p = some v ∧ w2.cell? q = some u ∧ NodesIn w2 u L ∧ Below w.heap.size w w2 :=
  ⟨cellk h.1 hb, cellk h.2.1 hb, h.2.2.1.keep hb, bl_call h.2.2.2 hb⟩
theorem markShape_k (k0 K : Nat) (v : Value) (L : List Nd) (lo hi : Nat) (w : World) (hK : k0 + (3 * L.length + sumX L) = K) (h : OwnSh w lo hi v L) (hn : tot L ≤ 1048576) (hk0 : k0 ≤ 10485760) : Calls Try.prog 20 #[.agg #[v], .int .i64 (k0 : Nat)] w
    fun e w' => e = .returned (.int .i64 (K : Nat)) ∧ Within lo hi w w' := by
  subst hK; exact markShape_from k0 v L lo hi w h hn hk0
theorem markShape_k1 (K : Nat) (v : Value) (L : List Nd) (lo hi : Nat) (w : World) (hK : 1 + (3 * L.length + sumX L) = K) (h : OwnSh w lo hi v L) (hn : tot L ≤ 1048576) : Calls Try.prog 20 #[.agg #[v], .int .i64 1] w
    fun e w' => e = .returned (.int .i64 (K : Nat)) ∧ Within lo hi w w' := markShape_k 1 K v L lo hi w hK h hn (by decide)
theorem markF_k (k0 K : Nat) (v : Value) (zs : List Nat) (n B : Nat) (w : World) (hK : k0 + n = K) (hnz : n = zs.length) (h : w.ownsRow B 61 1 v n (zs.map (Value.float .f32))) (hn : k0 + n ≤ 1073741824) : Calls Try.prog 34 #[v, .int .i64 (k0 : Nat)] w
    fun e w' => e = .returned (.int .i64 (K : Nat)) ∧ w.grownBy w' v.ownBlock := by
  subst hK
  refine (markFloat32S_any v zs k0 n B w hnz h hn).mono ?_
  rintro e w' ⟨rfl, _, hg⟩
  exact ⟨rfl, hg⟩
end GL
theorem wrap_small (k : Int) (L : List Nd) (x : Int) (xs : List Nat) : (wrapL k L x xs).length ≤ 16 ∧ sumX (wrapL k L x xs) ≤ 64 := by
  unfold wrapL
  split
  · exact shV_small _
  · exact ⟨by simp, by simp [sumX]⟩
end Go.Proofs.Ytpbccoobkmahlaa
