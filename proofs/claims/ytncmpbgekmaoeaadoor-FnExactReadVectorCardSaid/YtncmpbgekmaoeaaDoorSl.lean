/- Slices of numbers: what such a slice holds, and the contracts of the small functions on them that this claim reaches. No conditions but that bits fit their kind. -/
import Derived.Test.YtncmpbgekmaoeaaDoorNum
import Derived.LoopTactic
import Derived.Deep.RegionHeld3
namespace Go.Proofs.YtncmpbgekmaoeaaDoor
open Go.Fl Go.RowKit

/-- The slice value 'v' holds the numbers 'xs' in the world 'w'. -/
def FIn (w : World) (v : Value) (xs : List Nat) : Prop := ∃ a cap, v = .slice a xs.length cap ∧ (xs = [] ∨ ∃ b o, a = some ⟨b, o, none⟩ ∧ ∀ i, i < xs.length → w.cell? ⟨b, o + i, none⟩ = some (.float .f32 (xs.getD i 0)))

theorem FIn.keep {w w' : World} {v : Value} {xs : List Nat} (h : FIn w v xs) (hb : Below w.heap.size w w') : FIn w' v xs := by
  obtain ⟨a, cap, rfl, he | ⟨b, o, rfl, hc⟩⟩ := h
  · exact ⟨a, cap, rfl, .inl he⟩
  · exact ⟨_, cap, rfl, .inr ⟨b, o, rfl, fun i hi => (hb.cell (p := ⟨b, o + i, none⟩) (World.block_lt_of_cell? w _ (hc i hi))).trans (hc i hi)⟩⟩
theorem FIn.drewN {w : World} {v : Value} {xs : List Nat} (h : FIn w v xs) (n : Nat) : FIn (w.drewN n) v xs := h
theorem take_snoc (xs : List Nat) (k : Nat) (h : k < xs.length) : xs.take (k + 1) = xs.take k ++ [xs[k]] := List.take_succ_eq_append_getElem h
def sumF (xs : List Nat) : Nat := xs.foldl (fun r x => fop .add .f32 r x) 0
theorem sumF_snoc (xs : List Nat) (x : Nat) : sumF (xs ++ [x]) = fop .add .f32 (sumF xs) x := by simp [sumF]
theorem sumF_is {xs : List Nat} {k r q : Nat} (hk : k < xs.length) (hr : Is .f32 r (sumF (xs.take k))) (hq : Is .f32 q (fop .add .f32 r xs[k])) : Is .f32 q (sumF (xs.take (k + 1))) := by
  rw [take_snoc xs k hk, sumF_snoc]; exact hq.op hr.cn rfl

/-- A call's answer that is a number and whether there is one. -/
def FT (w : World) (o : Option Nat) : Ending → World → Prop := fun e w' => (match o with
  | some v => ∃ r, Is .f32 r v ∧ e = .returned (.tuple #[.float .f32 r, .bool true])
  | none => e = .returned (.tuple #[.float .f32 0, .bool false])) ∧ ∃ n, w' = w.drewN n
theorem FT_some {w : World} {o : Option Nat} {v r n : Nat} (H : o = some v) (hr : Is .f32 r v) : FT w o (.returned (.tuple #[.float .f32 r, .bool true])) (w.drewN n) := by subst H; exact ⟨⟨r, hr, rfl⟩, n, rfl⟩
theorem FT_none {w : World} {o : Option Nat} {n : Nat} (H : o = none) : FT w o (.returned (.tuple #[.float .f32 0, .bool false])) (w.drewN n) := by subst H; exact ⟨rfl, n, rfl⟩
def few (xs : List Nat) (v : Nat) : Option Nat := if xs.length ≤ 256 then some v else none
set_option maxHeartbeats 1000000 in
theorem eqFloat32S_true (v u : Value) (xs : List Nat) (w : World) (h : FIn w v xs) (h' : FIn w u xs) (hn : xs.length ≤ 1048576) : Calls Tryd.prog 26 #[v, u] w (BOut w true) := by
  have hwide := fun (W : World) (x : Nat) => run_wide (P := Tryd.prog) 36 58 x W (by rw [Tryd.underlying36]; rfl) Tryd.underlying58
  obtain ⟨a, cap, rfl, he⟩ := h
  obtain ⟨a', cap', rfl, he'⟩ := h'
  have hsrc : ∀ k, k < xs.length → ∃ b o b' o', a = some ⟨b, o, none⟩ ∧ w.cell? ⟨b, o + k, none⟩ = some (.float .f32 (xs.getD k 0)) ∧ a' = some ⟨b', o', none⟩ ∧ w.cell? ⟨b', o' + k, none⟩ = some (.float .f32 (xs.getD k 0)) := by
    intro k hk
    rcases he with rfl | ⟨b, o, ha, hc⟩
    · simp at hk
    rcases he' with rfl | ⟨b', o', ha', hc'⟩
    · simp at hk
    exact ⟨b, o, b', o', ha, hc k hk, ha', hc' k hk⟩
  clear he he'
  go_enter Tryd.func26, Tryd.ntmps26
  go_wp2_with fail
  go_loopw [5] (fun i wr => ∃ k n : Nat, k ≤ xs.length ∧ i = .int .i64 k ∧ wr = w.drewN n) (fun i _ => xs.length - (intOf i).toNat)
  case atStart => exact ⟨0, 0, Nat.zero_le _, rfl, rfl⟩
  case round =>
    obtain ⟨k, n, hk, rfl, rfl⟩ := hrel
    by_cases hlt : k < xs.length
    · obtain ⟨b, o, b', o', rfl, hc, rfl, hc'⟩ := hsrc k hlt
      clear hsrc
      go_wp2_with fail
      go_region_with (first | (go_at_call 40; refine (sameFloat_true _ _ (wide_eq (wv_is _ _) (wv_is _ _) rfl) _).mono ?_; rintro e w' ⟨rfl, n, rfl⟩))
      all_goals (go_wp2_with fail; go_roundw)
      all_goals first | exact ⟨k + 1, _, by omega, by go_num, rfl⟩ | (simp [intOf]; omega)
    · clear hsrc
      go_wp2_with fail
      go_ret
      exact ⟨rfl, _, rfl⟩
end Go.Proofs.YtncmpbgekmaoeaaDoor
