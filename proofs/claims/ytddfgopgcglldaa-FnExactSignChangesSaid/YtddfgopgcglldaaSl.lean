/- Slices of numbers: what such a slice holds, and the contracts of the small functions on them that this claim reaches. No conditions but that bits fit their kind. -/
import Derived.Test.YtddfgopgcglldaaNum
import Derived.LoopTactic
import Derived.Deep.RegionHeld3
namespace Go.Proofs.Ytddfgopgcglldaa
open Go.Fl Go.RowKit

/-- The slice value 'v' holds the numbers 'xs' in the world 'w'. -/
def FIn (w : World) (v : Value) (xs : List Nat) : Prop := ∃ a cap, v = .slice a xs.length cap ∧ (xs = [] ∨ ∃ b o, a = some ⟨b, o, none⟩ ∧ ∀ i, i < xs.length → w.cell? ⟨b, o + i, none⟩ = some (.float .f32 (xs.getD i 0)))

theorem FIn.keep {w w' : World} {v : Value} {xs : List Nat} (h : FIn w v xs) (hb : Below w.heap.size w w') : FIn w' v xs := by
  obtain ⟨a, cap, rfl, he | ⟨b, o, rfl, hc⟩⟩ := h
  · exact ⟨a, cap, rfl, .inl he⟩
  · exact ⟨_, cap, rfl, .inr ⟨b, o, rfl, fun i hi => (hb.cell (p := ⟨b, o + i, none⟩) (World.block_lt_of_cell? w _ (hc i hi))).trans (hc i hi)⟩⟩
theorem FIn.drewN {w : World} {v : Value} {xs : List Nat} (h : FIn w v xs) (n : Nat) : FIn (w.drewN n) v xs := h
theorem take_snoc (xs : List Nat) (k : Nat) (h : k < xs.length) : xs.take (k + 1) = xs.take k ++ [xs[k]] := List.take_succ_eq_append_getElem h
def sumF (xs : List Nat) : Nat := xs.foldl (fun r x => fop .add .f32 r x) 0
theorem sumF_snoc (xs : List Nat) (x : Nat) : sumF (xs ++ [x]) = fop .add .f32 (sumF xs) x := by simp [sumF]
theorem sumF_is {xs : List Nat} {k r q : Nat} (hk : k < xs.length) (hr : Is .f32 r (sumF (xs.take k))) (hq : Is .f32 q (fop .add .f32 r xs[k])) : Is .f32 q (sumF (xs.take (k + 1))) := by
  rw [take_snoc xs k hk, sumF_snoc]; exact hq.op hr.cn rfl

theorem l01Sum_any (v : Value) (xs : List Nat) (w : World) (h : FIn w v xs) (hn : xs.length ≤ 1048576) : Calls Try.prog 68 #[v] w (FOut w .f32 (sumF xs)) := by
  obtain ⟨a, cap, rfl, he | ⟨b, o, rfl, hc⟩⟩ := h
  · subst he
    go_enter Try.func68, Try.ntmps68
    go_wp2
    go_loopw [3, 4] (fun s i wr => ∃ k : Nat, i = .int .i64 k ∧ wr = w ∧ s = .float .f32 0) (fun _ _ _ => 0)
    case atStart => exact ⟨0, rfl, rfl, rfl⟩
    case round =>
      obtain ⟨k, rfl, rfl, rfl⟩ := hrel
      go_wp2
      go_ret
      exact ⟨_, 0, Is.refl (by decide), rfl, rfl⟩
  · go_enter Try.func68, Try.ntmps68
    go_wp2
    go_loopw [3, 4] (fun s i wr => ∃ k r n : Nat, k ≤ xs.length ∧ i = .int .i64 k ∧ wr = w.drewN n ∧ s = .float .f32 r ∧ Is .f32 r (sumF (xs.take k))) (fun _ i _ => xs.length - (intOf i).toNat)
    case atStart => exact ⟨0, 0, 0, Nat.zero_le _, rfl, rfl, rfl, Is.refl (by decide)⟩
    case round =>
      obtain ⟨k, r, n, hk, rfl, rfl, rfl, hr⟩ := hrel
      by_cases hlt : k < xs.length
      · have hcell := hc k hlt
        go_wp2_with ((with_reducible refine wpList_fop ?_); refine ⟨_, _, _, ⟨rfl, rfl, rfl, rfl⟩, ?_⟩; intro q n hq)
        go_roundw
        case rel => exact ⟨k + 1, q, _, by omega, by go_num, rfl, rfl, sumF_is hlt hr hq⟩
        case measure => simp [intOf]; omega
      · have e : xs.take k = xs := List.take_of_length_le (by omega)
        go_wp2
        go_ret
        exact ⟨_, _, by rw [e] at hr; exact hr, rfl, rfl⟩
theorem sum_any (v : Value) (xs : List Nat) (w : World) (h : FIn w v xs) (hn : xs.length ≤ 1048576) : Calls Try.prog 69 #[v] w (FOut w .f32 (sumF xs)) := by
  obtain ⟨a, cap, rfl, he | ⟨b, o, rfl, hc⟩⟩ := h
  · subst he
    go_enter Try.func69, Try.ntmps69
    go_wp2
    go_loopw [3, 8] (fun s i wr => ∃ k : Nat, i = .int .i64 k ∧ wr = w ∧ s = .float .f32 0) (fun _ _ _ => 0)
    case atStart => exact ⟨0, rfl, rfl, rfl⟩
    case round =>
      obtain ⟨k, rfl, rfl, rfl⟩ := hrel
      go_wp2
      go_ret
      exact ⟨_, 0, Is.refl (by decide), rfl, rfl⟩
  · go_enter Try.func69, Try.ntmps69
    go_wp2
    go_loopw [3, 8] (fun s i wr => ∃ k r n : Nat, k ≤ xs.length ∧ i = .int .i64 k ∧ wr = w.drewN n ∧ s = .float .f32 r ∧ Is .f32 r (sumF (xs.take k))) (fun _ i _ => xs.length - (intOf i).toNat)
    case atStart => exact ⟨0, 0, 0, Nat.zero_le _, rfl, rfl, rfl, Is.refl (by decide)⟩
    case round =>
      obtain ⟨k, r, n, hk, rfl, rfl, rfl, hr⟩ := hrel
      by_cases hlt : k < xs.length
      · have hcell := hc k hlt
        go_wp2_with ((with_reducible refine wpList_fop ?_); refine ⟨_, _, _, ⟨rfl, rfl, rfl, rfl⟩, ?_⟩; intro q n hq)
        go_roundw
        case rel => exact ⟨k + 1, q, _, by omega, by go_num, rfl, rfl, sumF_is hlt hr hq⟩
        case measure => simp [intOf]; omega
      · have e : xs.take k = xs := List.take_of_length_le (by omega)
        go_wp2
        go_ret
        exact ⟨_, _, by rw [e] at hr; exact hr, rfl, rfl⟩
/-- A call's answer that is a number and whether there is one. -/
def FT (w : World) (o : Option Nat) : Ending → World → Prop := fun e w' => (match o with
  | some v => ∃ r, Is .f32 r v ∧ e = .returned (.tuple #[.float .f32 r, .bool true])
  | none => e = .returned (.tuple #[.float .f32 0, .bool false])) ∧ ∃ n, w' = w.drewN n
theorem FT_some {w : World} {o : Option Nat} {v r n : Nat} (H : o = some v) (hr : Is .f32 r v) : FT w o (.returned (.tuple #[.float .f32 r, .bool true])) (w.drewN n) := by subst H; exact ⟨⟨r, hr, rfl⟩, n, rfl⟩
theorem FT_none {w : World} {o : Option Nat} {n : Nat} (H : o = none) : FT w o (.returned (.tuple #[.float .f32 0, .bool false])) (w.drewN n) := by subst H; exact ⟨rfl, n, rfl⟩
def few (xs : List Nat) (v : Nat) : Option Nat := if xs.length ≤ 256 then some v else none
theorem SumNumbers_any (v : Value) (xs : List Nat) (w : World) (h : FIn w v xs) (hn : xs.length ≤ 1048576) : Calls Try.prog 36 #[v] w (FT w (few xs (sumF xs))) := by
  have h' := h
  obtain ⟨a, cap, rfl, _⟩ := h'
  by_cases hf : xs.length ≤ 256
  · have H := Lib.hid (show few xs (sumF xs) = some (sumF xs) from if_pos hf)
    have hd : decide ((xs.length : Int) ≤ 256) = true := by simp; omega
    go_enter Try.func36, Try.ntmps36
    go_wp2_with (first | (go_at_call 65; go_in) | (go_at_call 69; refine (sum_any _ _ _ h hn).mono ?_; rintro e w' ⟨r, n, hr, rfl, rfl⟩))
    go_ret2
    exact FT_some H.out hr
  · have H := Lib.hid (show few xs (sumF xs) = none from if_neg hf)
    have hd : decide ((xs.length : Int) ≤ 256) = false := by simp; omega
    go_enter Try.func36, Try.ntmps36
    go_wp2_with (first | (go_at_call 65; go_in) | (go_at_call 69; refine (sum_any _ _ _ h hn).mono ?_; rintro e w' ⟨r, n, hr, rfl, rfl⟩))
    go_ret2
    exact FT_none (n := 0) H.out
theorem spec_SumNumbers_any (v : Value) (xs : List Nat) (w : World) (h : FIn w v xs) (hn : xs.length ≤ 1048576) : Calls Try.prog 35 #[v] w (FT w (few xs (sumF xs))) := by
  have h' := h
  obtain ⟨a, cap, rfl, _⟩ := h'
  by_cases hf : xs.length ≤ 256
  · have H := Lib.hid (show few xs (sumF xs) = some (sumF xs) from if_pos hf)
    have hd : decide ((xs.length : Int) ≤ 256) = true := by simp; omega
    go_enter Try.func35, Try.ntmps35
    go_wp2_with (first | (go_at_call 63; go_in) | (go_at_call 68; refine (l01Sum_any _ _ _ h hn).mono ?_; rintro e w' ⟨r, n, hr, rfl, rfl⟩))
    go_ret2
    exact FT_some H.out hr
  · have H := Lib.hid (show few xs (sumF xs) = none from if_neg hf)
    have hd : decide ((xs.length : Int) ≤ 256) = false := by simp; omega
    go_enter Try.func35, Try.ntmps35
    go_wp2_with (first | (go_at_call 63; go_in) | (go_at_call 68; refine (l01Sum_any _ _ _ h hn).mono ?_; rintro e w' ⟨r, n, hr, rfl, rfl⟩))
    go_ret2
    exact FT_none (n := 0) H.out
theorem info_f32 : (Try.prog.info? 22).map (fun i => (i.zero, i.size, i.bytes)) = some (some (.float .f32 0), 1, 4) := by kernel_rfl
/-- What lies in the new row behind k rounds. -/
def rowF (xs : List Nat) (k : Nat) : List Value := (xs.take k).map (Value.float .f32) ++ List.replicate (xs.length - k) (Value.float .f32 0)
theorem rowF_len (xs : List Nat) (k : Nat) (hk : k ≤ xs.length) : (rowF xs k).length = xs.length := by simp [rowF]; omega
theorem rowF_zero (xs : List Nat) : (madeCells (Value.float .f32 0).cells (xs.length * 1)).toList = rowF xs 0 := by
  simp only [rowF, List.take_zero, List.map_nil, List.nil_append, Nat.sub_zero, Nat.mul_one]
  refine List.ext_getElem (by simp [madeCells]) fun i h1 h2 => ?_
  simp [madeCells, Value.cells, Nat.mod_one]
theorem rowF_set (xs : List Nat) (k : Nat) (hk : k < xs.length) : (rowF xs k).set k (.float .f32 xs[k]) = rowF xs (k + 1) := by
  unfold rowF
  have e : xs.length - k = (xs.length - (k + 1)) + 1 := by omega
  have l : ((xs.take k).map (Value.float .f32)).length = k := by simp; omega
  rw [List.set_append_right _ _ (by omega), l, Nat.sub_self, e, List.replicate_succ, List.set_cons_zero, take_snoc xs k hk, List.map_append, List.append_assoc]
  simp
theorem rowF_full (xs : List Nat) : rowF xs xs.length = xs.map (Value.float .f32) := by simp [rowF]
theorem rowF_get (xs : List Nat) (k j : Nat) (hk : k ≤ xs.length) (hj : j < xs.length) : ∃ u, (rowF xs k)[j]? = some u := ⟨_, List.getElem?_eq_getElem (by rw [rowF_len xs k hk]; exact hj)⟩
theorem FIn_of_row {w : World} {B g n cap : Nat} {e : TypeId} {xs : List Nat} (hn : n = xs.length) (h : w.ownsRow B e 1 (.slice (some ⟨g, 0, none⟩) n cap) n (xs.map (Value.float .f32))) : FIn w (.slice (some ⟨g, 0, none⟩) xs.length cap) xs := by
  subst hn
  refine ⟨_, cap, rfl, .inr ⟨g, 0, rfl, fun i hi => ?_⟩⟩
  rw [Nat.zero_add, h.cellAt i (by omega)]
  simp [hi]
set_option maxHeartbeats 1000000 in
theorem toFloat32S_any (v : Value) (xs : List Nat) (w : World) (h : FIn w v xs) (hn : xs.length ≤ 1048576) : Calls Try.prog 30 #[v] w
    fun e w' => ∃ g, e = .returned (.slice (some ⟨g, 0, none⟩) xs.length xs.length) ∧ w.heap.size ≤ g ∧ w'.ownsRow w.heap.size 22 1 (.slice (some ⟨g, 0, none⟩) xs.length xs.length) xs.length (xs.map (Value.float .f32)) ∧ Below w.heap.size w w' := by
  obtain ⟨i0, hi, hz0, hz1, hz2⟩ := info_parts info_f32
  have hb2 : i0.bytes * xs.length ≤ 281474976710656 := by rw [hz2]; omega
  have hb3 : xs.length ≤ maxLen := by unfold maxLen; omega
  obtain ⟨a, cap, rfl, he⟩ := h
  have hsrc : ∀ k, k < xs.length → ∃ b o, a = some ⟨b, o, none⟩ ∧ b < w.heap.size ∧ w.cell? ⟨b, o + k, none⟩ = some (.float .f32 (xs.getD k 0)) := by
    intro k hk
    rcases he with rfl | ⟨b, o, ha, hc⟩
    · simp at hk
    · exact ⟨b, o, ha, World.block_lt_of_cell? w _ (hc k hk), hc k hk⟩
  clear he
  go_enter Try.func30, Try.ntmps30
  go_wp2_with (at_make; refine wpList_make_full _ rfl _ _ 40 rfl w.heap.size 22 i0 (.float .f32 0) 1 Try.underlying40 hi hz0 hz1 .i64 .i64 _ _ xs.length rfl rfl rfl rfl hb2 hb3 (Nat.le_refl _) ?_; intro w1 hown hgrow)
  rw [rowF_zero] at hown
  have hbl := (bl_refl w).grown hgrow (Nat.le_refl _) (fun k hk => by cases hk)
  clear hgrow
  go_loopw [4] (fun i wr => ∃ k : Nat, k ≤ xs.length ∧ i = .int .i64 k ∧ wr.ownsRow w.heap.size 22 1 (.slice (some ⟨w.heap.size, 0, none⟩) xs.length xs.length) xs.length (rowF xs k) ∧ Below w.heap.size w wr) (fun i _ => xs.length - (intOf i).toNat)
  case atStart => exact ⟨0, Nat.zero_le _, rfl, hown, hbl⟩
  case round =>
    obtain ⟨k, hk, rfl, hown', hbl'⟩ := hrel
    by_cases hlt : k < xs.length
    · obtain ⟨b, o, rfl, hb, hcell⟩ := hsrc k hlt
      have hcell' := (hbl'.cell (p := ⟨b, o + k, none⟩) hb).trans hcell
      obtain ⟨u, hu⟩ := rowF_get xs k k hk hlt
      have hd := (hown'.cellAt k (by omega)).trans hu
      have hf := hown'.frozenAt k
      have hst := hown'.stored k (.float .f32 xs[k])
      rw [rowF_set xs k hlt] at hst
      clear hsrc hown hbl
      go_wp2
      go_roundw
      case rel => exact ⟨k + 1, by omega, by go_num, hst.1, hbl'.setCell (Nat.le_refl _) _⟩
      case measure => simp [intOf]; omega
    · obtain rfl : k = xs.length := by omega
      rw [rowF_full] at hown'
      clear hsrc
      go_wp2
      go_ret
      exact ⟨_, rfl, Nat.le_refl _, hown', hbl'⟩
set_option maxHeartbeats 1000000 in
theorem eqFloat32S_true (v u : Value) (xs : List Nat) (w : World) (h : FIn w v xs) (h' : FIn w u xs) (hn : xs.length ≤ 1048576) : Calls Try.prog 32 #[v, u] w (BOut w true) := by
  have hwide := fun (W : World) (x : Nat) => run_wide (P := Try.prog) 22 31 x W (by rw [Try.underlying22]; rfl) Try.underlying31
  obtain ⟨a, cap, rfl, he⟩ := h
  obtain ⟨a', cap', rfl, he'⟩ := h'
  have hsrc : ∀ k, k < xs.length → ∃ b o b' o', a = some ⟨b, o, none⟩ ∧ w.cell? ⟨b, o + k, none⟩ = some (.float .f32 (xs.getD k 0)) ∧ a' = some ⟨b', o', none⟩ ∧ w.cell? ⟨b', o' + k, none⟩ = some (.float .f32 (xs.getD k 0)) := by
    intro k hk
    rcases he with rfl | ⟨b, o, ha, hc⟩
    · simp at hk
    rcases he' with rfl | ⟨b', o', ha', hc'⟩
    · simp at hk
    exact ⟨b, o, b', o', ha, hc k hk, ha', hc' k hk⟩
  clear he he'
  go_enter Try.func32, Try.ntmps32
  go_wp2_with fail
  go_loopw [5] (fun i wr => ∃ k n : Nat, k ≤ xs.length ∧ i = .int .i64 k ∧ wr = w.drewN n) (fun i _ => xs.length - (intOf i).toNat)
  case atStart => exact ⟨0, 0, Nat.zero_le _, rfl, rfl⟩
  case round =>
    obtain ⟨k, n, hk, rfl, rfl⟩ := hrel
    by_cases hlt : k < xs.length
    · obtain ⟨b, o, b', o', rfl, hc, rfl, hc'⟩ := hsrc k hlt
      clear hsrc
      go_wp2_with fail
      go_region_with (first | (go_at_call 20; refine (sameFloat_true _ _ (wide_eq (wv_is _ _) (wv_is _ _) rfl) _).mono ?_; rintro e w' ⟨rfl, n, rfl⟩))
      all_goals (go_wp2_with fail; go_roundw)
      all_goals first | exact ⟨k + 1, _, by omega, by go_num, rfl⟩ | (simp [intOf]; omega)
    · clear hsrc
      go_wp2_with fail
      go_ret
      exact ⟨rfl, _, rfl⟩
end Go.Proofs.Ytddfgopgcglldaa
