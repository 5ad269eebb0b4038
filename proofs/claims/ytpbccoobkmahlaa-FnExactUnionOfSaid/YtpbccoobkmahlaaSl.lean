/- Slices of numbers: what such a slice holds, and the contracts of the small functions on them that this claim reaches. No conditions but that bits fit their kind. -/
import Derived.Test.YtpbccoobkmahlaaNum
import Derived.LoopTactic
import Derived.Deep.RegionHeld3
namespace Go.Proofs.Ytpbccoobkmahlaa
open Go.Fl Go.RowKit

/-- The slice value 'v' holds the numbers 'xs' in the world 'w'. -/
def FIn (w : World) (v : Value) (xs : List Nat) : Prop := ∃ a cap, v = .slice a xs.length cap ∧ (xs = [] ∨ ∃ b o, a = some ⟨b, o, none⟩ ∧ ∀ i, i < xs.length → w.cell? ⟨b, o + i, none⟩ = some (.float .f32 (xs.getD i 0)))

theorem FIn.keep {w w' : World} {v : Value} {xs : List Nat} (h : FIn w v xs) (hb : Below w.heap.size w w') : FIn w' v xs := by
  obtain ⟨a, cap, rfl, he | ⟨b, o, rfl, hc⟩⟩ := h
  · exact ⟨a, cap, rfl, .inl he⟩
  · exact ⟨_, cap, rfl, .inr ⟨b, o, rfl, fun i hi => (hb.cell (p := ⟨b, o + i, none⟩) (World.block_lt_of_cell? w _ (hc i hi))).trans (hc i hi)⟩⟩
theorem FIn.drewN {w : World} {v : Value} {xs : List Nat} (h : FIn w v xs) (n : Nat) : FIn (w.drewN n) v xs := h
theorem take_snoc (xs : List Nat) (k : Nat) (h : k < xs.length) : xs.take (k + 1) = xs.take k ++ [xs[k]] := List.take_succ_eq_append_getElem h
def sumF (xs : List Nat) : Nat := xs.foldl (fun r x => fop .add .f32 r x) 0
theorem sumF_snoc (xs : List Nat) (x : Nat) : sumF (xs ++ [x]) = fop .add .f32 (sumF xs) x := by simp [sumF]
theorem sumF_is {xs : List Nat} {k r q : Nat} (hk : k < xs.length) (hr : Is .f32 r (sumF (xs.take k))) (hq : Is .f32 q (fop .add .f32 r xs[k])) : Is .f32 q (sumF (xs.take (k + 1))) := by
  rw [take_snoc xs k hk, sumF_snoc]; exact hq.op hr.cn rfl

/-- A call's answer that is a number and whether there is one. -/
def FT (w : World) (o : Option Nat) : Ending → World → Prop := fun e w' => (match o with
  | some v => ∃ r, Is .f32 r v ∧ e = .returned (.tuple #[.float .f32 r, .bool true])
  | none => e = .returned (.tuple #[.float .f32 0, .bool false])) ∧ ∃ n, w' = w.drewN n
theorem FT_some {w : World} {o : Option Nat} {v r n : Nat} (H : o = some v) (hr : Is .f32 r v) : FT w o (.returned (.tuple #[.float .f32 r, .bool true])) (w.drewN n) := by subst H; exact ⟨⟨r, hr, rfl⟩, n, rfl⟩
theorem FT_none {w : World} {o : Option Nat} {n : Nat} (H : o = none) : FT w o (.returned (.tuple #[.float .f32 0, .bool false])) (w.drewN n) := by subst H; exact ⟨rfl, n, rfl⟩
def few (xs : List Nat) (v : Nat) : Option Nat := if xs.length ≤ 256 then some v else none
theorem info_f32 : (Try.prog.info? 61).map (fun i => (i.zero, i.size, i.bytes)) = some (some (.float .f32 0), 1, 4) := by kernel_rfl
/-- What lies in the new row behind k rounds. -/
def rowF (xs : List Nat) (k : Nat) : List Value := (xs.take k).map (Value.float .f32) ++ List.replicate (xs.length - k) (Value.float .f32 0)
theorem rowF_len (xs : List Nat) (k : Nat) (hk : k ≤ xs.length) : (rowF xs k).length = xs.length := by simp [rowF]; omega
theorem rowF_zero (xs : List Nat) : (madeCells (Value.float .f32 0).cells (xs.length * 1)).toList = rowF xs 0 := by
  simp only [rowF, List.take_zero, List.map_nil, List.nil_append, Nat.sub_zero, Nat.mul_one]
  refine List.ext_getElem (by simp [madeCells]) fun i h1 h2 => ?_
  simp [madeCells, Value.cells, Nat.mod_one]
theorem rowF_set (xs : List Nat) (k : Nat) (hk : k < xs.length) : (rowF xs k).set k (.float .f32 xs[k]) = rowF xs (k + 1) := by
  unfold rowF
  have e : xs.length - k = (xs.length - (k + 1)) + 1 := by omega
  have l : ((xs.take k).map (Value.float .f32)).length = k := by simp; omega
  rw [List.set_append_right _ _ (by omega), l, Nat.sub_self, e, List.replicate_succ, List.set_cons_zero, take_snoc xs k hk, List.map_append, List.append_assoc]
  simp
theorem rowF_full (xs : List Nat) : rowF xs xs.length = xs.map (Value.float .f32) := by simp [rowF]
theorem rowF_get (xs : List Nat) (k j : Nat) (hk : k ≤ xs.length) (hj : j < xs.length) : ∃ u, (rowF xs k)[j]? = some u := ⟨_, List.getElem?_eq_getElem (by rw [rowF_len xs k hk]; exact hj)⟩
theorem FIn_of_row {w : World} {B g n cap : Nat} {e : TypeId} {xs : List Nat} (hn : n = xs.length) (h : w.ownsRow B e 1 (.slice (some ⟨g, 0, none⟩) n cap) n (xs.map (Value.float .f32))) : FIn w (.slice (some ⟨g, 0, none⟩) xs.length cap) xs := by
  subst hn
  refine ⟨_, cap, rfl, .inr ⟨g, 0, rfl, fun i hi => ?_⟩⟩
  rw [Nat.zero_add, h.cellAt i (by omega)]
  simp [hi]
set_option maxHeartbeats 1000000 in
theorem toFloat32S_any (v : Value) (xs : List Nat) (w : World) (h : FIn w v xs) (hn : xs.length ≤ 1048576) : Calls Try.prog 31 #[v] w
    fun e w' => ∃ g, e = .returned (.slice (some ⟨g, 0, none⟩) xs.length xs.length) ∧ w.heap.size ≤ g ∧ w'.ownsRow w.heap.size 61 1 (.slice (some ⟨g, 0, none⟩) xs.length xs.length) xs.length (xs.map (Value.float .f32)) ∧ Below w.heap.size w w' := by
  obtain ⟨i0, hi, hz0, hz1, hz2⟩ := info_parts info_f32
  have hb2 : i0.bytes * xs.length ≤ 281474976710656 := by rw [hz2]; omega
  have hb3 : xs.length ≤ maxLen := by unfold maxLen; omega
  obtain ⟨a, cap, rfl, he⟩ := h
  have hsrc : ∀ k, k < xs.length → ∃ b o, a = some ⟨b, o, none⟩ ∧ b < w.heap.size ∧ w.cell? ⟨b, o + k, none⟩ = some (.float .f32 (xs.getD k 0)) := by
    intro k hk
    rcases he with rfl | ⟨b, o, ha, hc⟩
    · simp at hk
    · exact ⟨b, o, ha, World.block_lt_of_cell? w _ (hc k hk), hc k hk⟩
  clear he
  go_enter Try.func31, Try.ntmps31
  go_wp2_with (at_make; refine wpList_make_full _ rfl _ _ 46 rfl w.heap.size 61 i0 (.float .f32 0) 1 Try.underlying46 hi hz0 hz1 .i64 .i64 _ _ xs.length rfl rfl rfl rfl hb2 hb3 (Nat.le_refl _) ?_; intro w1 hown hgrow)
  rw [rowF_zero] at hown
  have hbl := (bl_refl w).grown hgrow (Nat.le_refl _) (fun k hk => by cases hk)
  clear hgrow
  go_loopw [4] (fun i wr => ∃ k : Nat, k ≤ xs.length ∧ i = .int .i64 k ∧ wr.ownsRow w.heap.size 61 1 (.slice (some ⟨w.heap.size, 0, none⟩) xs.length xs.length) xs.length (rowF xs k) ∧ Below w.heap.size w wr) (fun i _ => xs.length - (intOf i).toNat)
  case atStart => exact ⟨0, Nat.zero_le _, rfl, hown, hbl⟩
  case round =>
    obtain ⟨k, hk, rfl, hown', hbl'⟩ := hrel
    by_cases hlt : k < xs.length
    · obtain ⟨b, o, rfl, hb, hcell⟩ := hsrc k hlt
      have hcell' := (hbl'.cell (p := ⟨b, o + k, none⟩) hb).trans hcell
      obtain ⟨u, hu⟩ := rowF_get xs k k hk hlt
      have hd := (hown'.cellAt k (by omega)).trans hu
      have hf := hown'.frozenAt k
      have hst := hown'.stored k (.float .f32 xs[k])
      rw [rowF_set xs k hlt] at hst
      clear hsrc hown hbl
      go_wp2
      go_roundw
      case rel => exact ⟨k + 1, by omega, by go_num, hst.1, hbl'.setCell (Nat.le_refl _) _⟩
      case measure => simp [intOf]; omega
    · obtain rfl : k = xs.length := by omega
      rw [rowF_full] at hown'
      clear hsrc
      go_wp2
      go_ret
      exact ⟨_, rfl, Nat.le_refl _, hown', hbl'⟩
set_option maxHeartbeats 1000000 in
theorem eqFloat32S_true (v u : Value) (xs : List Nat) (w : World) (h : FIn w v xs) (h' : FIn w u xs) (hn : xs.length ≤ 1048576) : Calls Try.prog 33 #[v, u] w (BOut w true) := by
  have hwide := fun (W : World) (x : Nat) => run_wide (P := Try.prog) 61 65 x W (by rw [Try.underlying61]; rfl) Try.underlying65
  obtain ⟨a, cap, rfl, he⟩ := h
  obtain ⟨a', cap', rfl, he'⟩ := h'
  have hsrc : ∀ k, k < xs.length → ∃ b o b' o', a = some ⟨b, o, none⟩ ∧ w.cell? ⟨b, o + k, none⟩ = some (.float .f32 (xs.getD k 0)) ∧ a' = some ⟨b', o', none⟩ ∧ w.cell? ⟨b', o' + k, none⟩ = some (.float .f32 (xs.getD k 0)) := by
    intro k hk
    rcases he with rfl | ⟨b, o, ha, hc⟩
    · simp at hk
    rcases he' with rfl | ⟨b', o', ha', hc'⟩
    · simp at hk
    exact ⟨b, o, b', o', ha, hc k hk, ha', hc' k hk⟩
  clear he he'
  go_enter Try.func33, Try.ntmps33
  go_wp2_with fail
  go_loopw [5] (fun i wr => ∃ k n : Nat, k ≤ xs.length ∧ i = .int .i64 k ∧ wr = w.drewN n) (fun i _ => xs.length - (intOf i).toNat)
  case atStart => exact ⟨0, 0, Nat.zero_le _, rfl, rfl⟩
  case round =>
    obtain ⟨k, n, hk, rfl, rfl⟩ := hrel
    by_cases hlt : k < xs.length
    · obtain ⟨b, o, b', o', rfl, hc, rfl, hc'⟩ := hsrc k hlt
      clear hsrc
      go_wp2_with fail
      go_region_with (first | (go_at_call 46; refine (sameFloat_true _ _ (wide_eq (wv_is _ _) (wv_is _ _) rfl) _).mono ?_; rintro e w' ⟨rfl, n, rfl⟩))
      all_goals (go_wp2_with fail; go_roundw)
      all_goals first | exact ⟨k + 1, _, by omega, by go_num, rfl⟩ | (simp [intOf]; omega)
    · clear hsrc
      go_wp2_with fail
      go_ret
      exact ⟨rfl, _, rfl⟩
end Go.Proofs.Ytpbccoobkmahlaa
