/- For the laws of calls that give a shape: marks laid into it and looked for. No conditions but bounds. -/
import Derived.Test.YtpbccoobkmahlaaOneN
namespace Go.Proofs.Ytpbccoobkmahlaa
open Go.Fl Go.RowKit

namespace GL
theorem markedF_one (v : Value) (zs : List Nat) (n B : Nat) (w : World) (hnz : n = zs.length) (h : w.ownsRow B 61 1 v n (zs.map (Value.float .f32))) (hn : 1 + n ≤ 1073741824) : Calls Try.prog 34 #[v, .int .i64 1] w
    fun e w' => e = .returned (.int .i64 ((1 + n : Nat) : Int)) ∧ w'.ownsRow B 61 1 v n ((fmarks 1 n).map (Value.float .f32)) ∧ w.grownBy w' v.ownBlock := markFloat32S_any v zs 1 n B w hnz h hn
theorem row_within {w w' : World} {lo hi B n s : Nat} {e : TypeId} {v : Value} {xs : List Value} (h : w.ownsRow B e s v n xs) (hw : Within lo hi w w') (hv : ∀ g, v.ownBlock = some g → g < lo ∨ hi ≤ g) : w'.ownsRow B e s v n xs :=
  own_at h (fun g hg => hw.block g (h.lt g hg).2 (hv g hg))
theorem sum_mk : ∀ P : List PNd, (P.map mkLen).sum = 3 * P.length + sumX (P.map (·.d))
  | [] => by simp [sumX]
  | p :: r => by
    have := sum_mk r
    unfold sumX at this ⊢
    simp only [List.map_cons, List.sum_cons, List.length_cons, mkLen, this]
    omega
theorem kAt_is {P : List PNd} {L : List Nd} (h : P.map (·.d) = L) (k : Nat) : kAt P k P.length = k + (3 * L.length + sumX L) := by
  unfold kAt; rw [List.take_length, sum_mk, h, ← h, List.length_map]
/-- Marks laid into the numbers of a list of the call's own lie in its block. -/
theorem mark_within {w w' : World} {g n c lo hi : Nat} (h : w.grownBy w' (Value.slice (some ⟨g, 0, none⟩) n c).ownBlock) (h1 : lo ≤ g) (h2 : g < hi) : Within lo hi w w' :=
  grown_within h (fun r hr => by simp [Value.ownBlock] at hr; omega)
/-- Marks laid into a shape of an argument: from what they start is no matter. -/
theorem markShape_from (k0 : Nat) (v : Value) (L : List Nd) (lo hi : Nat) (w : World) (h : OwnSh w lo hi v L) (hn : tot L ≤ 1048576) (hk0 : k0 ≤ 10485760) : Calls Try.prog 20 #[.agg #[v], .int .i64 (k0 : Nat)] w
    fun e w' => e = .returned (.int .i64 ((k0 + (3 * L.length + sumX L) : Nat) : Int)) ∧ Within lo hi w w' := by
  obtain ⟨P, e, hP⟩ := h
  have hk := kAt_is e k0
  have hl : P.length = L.length := by rw [← e, List.length_map]
  unfold tot at hn
  refine (markShape_any v P k0 lo hi w hP (by omega) (by omega)).mono ?_
  rintro e w' ⟨rfl, _, hw⟩
  exact ⟨by rw [hk], hw⟩
theorem markShape_one (v : Value) (L : List Nd) (lo hi : Nat) (w : World) (h : OwnSh w lo hi v L) (hn : tot L ≤ 1048576) : Calls Try.prog 20 #[.agg #[v], .int .i64 1] w
    fun e w' => e = .returned (.int .i64 ((1 + (3 * L.length + sumX L) : Nat) : Int)) ∧ Within lo hi w w' := markShape_from 1 v L lo hi w h hn (by decide)
/-- The shape bears the marks from 1 on, K of them and one. -/
def Marked (w : World) (lo hi : Nat) (v : Value) (K : Nat) : Prop := ∃ P : List PNd, kAt P 1 P.length = K ∧ K ≤ 256 ∧ OwnP w lo hi v (markP P 1)
theorem Marked.keep {w w' : World} {lo hi K : Nat} {v : Value} (h : Marked w lo hi v K) (hb : Below w.heap.size w w') : Marked w' lo hi v K := by
  obtain ⟨P, e, hk, hP⟩ := h
  exact ⟨P, e, hk, hP.keep hb⟩
theorem markShape_G (v : Value) (M : List Nd) (lo hi : Nat) (w : World) (h : OwnSh w lo hi v M) (hm : M.length ≤ 16 ∧ sumX M ≤ 64) : Calls Try.prog 20 #[.agg #[v], .int .i64 1] w
    fun e w' => e = .returned (.int .i64 ((1 + (3 * M.length + sumX M) : Nat) : Int)) ∧ Marked w' lo hi v (1 + (3 * M.length + sumX M)) ∧ Within lo hi w w' := by
  obtain ⟨P, e, hP⟩ := h
  have hk := kAt_is e 1
  have hl : P.length = M.length := by rw [← e, List.length_map]
  refine (markShape_any v P 1 lo hi w hP (by omega) (by omega)).mono ?_
  rintro e w' ⟨rfl, hm', hw⟩
  exact ⟨by rw [hk], ⟨P, hk, by omega, hm'⟩, hw⟩
theorem heldShape_G (v : Value) (lo hi K : Nat) (w : World) (h : Marked w lo hi v K) : Calls Try.prog 21 #[.agg #[v], .int .i64 1] w
    fun e w' => e = .returned (.int .i64 (K : Nat)) ∧ Below w.heap.size w w' := by
  obtain ⟨P, e, hk, hP⟩ := h
  subst e
  exact heldShape_any v P 1 w hP.nodes hk
end GL
end Go.Proofs.Ytpbccoobkmahlaa
