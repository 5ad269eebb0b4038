/- A vector read from its text. No conditions but a bound on the length. -/
import Derived.Test.YtncmpbgekmaoeaaDoorRNum
import Derived.Test.YtncmpbgekmaoeaaDoorEqv
namespace Go.Proofs.YtncmpbgekmaoeaaDoor
open Go.Fl Go.RowKit

def vOk (P : List (List UInt8)) : Bool := nsOk P && decide ((nsN P).length = 3)
def vAt (P : List (List UInt8)) (i : Nat) : Nat := if vOk P = true then (nsN P).getD i 0 else 0
def RV (w : World) (P : List (List UInt8)) : Ending → World → Prop := fun e w' => e = .returned (.tuple #[.agg #[.float .f32 (vAt P 0), .float .f32 (vAt P 1), .float .f32 (vAt P 2)], .bool (vOk P)]) ∧ Below w.heap.size w w'
theorem RV_no {w w' : World} {P : List (List UInt8)} (h : vOk P = false) (hb : Below w.heap.size w w') : RV w P (.returned (.tuple #[.agg #[.float .f32 0, .float .f32 0, .float .f32 0], .bool false])) w' := by
  have e : ∀ i, vAt P i = 0 := fun i => by unfold vAt; rw [h]; rfl
  exact ⟨by rw [e, e, e, h], hb⟩
theorem RV_yes {w w' : World} {P : List (List UInt8)} {x y z : Nat} (h : vOk P = true) (hz : nsN P = [x, y, z]) (hb : Below w.heap.size w w') : RV w P (.returned (.tuple #[.agg #[.float .f32 x, .float .f32 y, .float .f32 z], .bool true])) w' := by
  have e : ∀ i, vAt P i = (nsN P).getD i 0 := fun i => by unfold vAt; rw [if_pos h]
  exact ⟨by rw [e, e, e, h, hz]; rfl, hb⟩
def Bl3 (w : World) (g : Nat) (x y z : Value) : Prop := w.heap[g]? = some (.cells #[x, y, z] 38 (0, 0))
theorem Bl3.cells {w : World} {g : Nat} {x y z : Value} (h : Bl3 w g x y z) : w.cell? ⟨g, 0, none⟩ = some x ∧ w.cell? ⟨g, 1, none⟩ = some y ∧ w.cell? ⟨g, 2, none⟩ = some z :=
  ⟨cell_of_row w g 0 _ _ (0, 0) h, cell_of_row w g 1 _ _ (0, 0) h, cell_of_row w g 2 _ _ (0, 0) h⟩
theorem Bl3.frozen {w : World} {g : Nat} {x y z : Value} (h : Bl3 w g x y z) (i : Nat) : w.frozen? ⟨g, i, none⟩ = false := by
  unfold Bl3 at h
  simp [World.frozen?, h]
theorem Bl3.new (w : World) (x y z : Value) : Bl3 (w.alloc (.cells #[x, y, z] 38)) w.heap.size x y z := heap_alloc_new w _
theorem Bl3.below {w w' : World} {B g : Nat} {x y z : Value} (h : Bl3 w g x y z) (hb : Below B w w') (hg : g < B) : Bl3 w' g x y z := (hb.block g hg).trans h
theorem Bl3.set0 {w : World} {g : Nat} {x y z : Value} (h : Bl3 w g x y z) (u : Value) : Bl3 (w.setCell ⟨g, 0, none⟩ u) g u y z := by
  unfold Bl3 at h ⊢
  simp [World.setCell, Array.getElem?_modify, h]
theorem Bl3.set1 {w : World} {g : Nat} {x y z : Value} (h : Bl3 w g x y z) (u : Value) : Bl3 (w.setCell ⟨g, 1, none⟩ u) g x u z := by
  unfold Bl3 at h ⊢
  simp [World.setCell, Array.getElem?_modify, h]
theorem Bl3.set2 {w : World} {g : Nat} {x y z : Value} (h : Bl3 w g x y z) (u : Value) : Bl3 (w.setCell ⟨g, 2, none⟩ u) g x y u := by
  unfold Bl3 at h ⊢
  simp [World.setCell, Array.getElem?_modify, h]
theorem Bl3.sets {w : World} {g : Nat} {x y z : Value} (h : Bl3 w g x y z) (a b c : Value) : Bl3 (((w.setCell ⟨g, 0, none⟩ a).setCell ⟨g, 1, none⟩ b).setCell ⟨g, 2, none⟩ c) g a b c := ((h.set0 a).set1 b).set2 c
theorem results_vec {fn : Func} {p u : Tmp} (h : fn.results = #[.cell p 38, .tmp u]) (tmps : Array Value) (w : World) (g : Nat) (x y z : Value) (hp : tmps.getD p undef = .pointer (some ⟨g, 0, none⟩)) (hg : Bl3 w g x y z) :
    (results fn tmps).run Tryd.prog w = .ok (.tuple #[.agg #[x, y, z], tmps.getD u undef]) w := by
  rw [results_cell_tmp h, hp]
  simp [asAddr, run_loadVar_row w g 38 38 #[x, y, z] (0, 0) _ hg Tryd.underlying38 rfl (by kernel_rfl)]
theorem bl_sets {w W : World} {g : Nat} (h : Below w.heap.size w W) (hg : w.heap.size ≤ g) (a b c : Value) : Below w.heap.size w (((W.setCell ⟨g, 0, none⟩ a).setCell ⟨g, 1, none⟩ b).setCell ⟨g, 2, none⟩ c) := bl_set (bl_set (bl_set h hg _) hg _) hg _
theorem bl_new_lt {w : World} {o : Obj} {g : Nat} (h : (w.alloc o).heap.size ≤ g) : w.heap.size < g := by
  have : (w.alloc o).heap.size = w.heap.size + 1 := by simp
  omega
theorem three_of {w : World} {B : Nat} {v : Value} {Z : List Nat} {x y z : Nat} (hZ : Z = [x, y, z]) (h : w.ownsRow B 36 1 v Z.length (Z.map (Value.float .f32))) : ∃ g cap, v = .slice (some ⟨g, 0, none⟩) 3 cap ∧ B ≤ g ∧ w.cell? ⟨g, 0, none⟩ = some (.float .f32 x) ∧ w.cell? ⟨g, 1, none⟩ = some (.float .f32 y) ∧ w.cell? ⟨g, 2, none⟩ = some (.float .f32 z) := by
  subst hZ
  obtain ⟨hl, ⟨_, h0⟩ | ⟨g, cap, cur, rfl, hb, hg, rest⟩⟩ := id h
  · simp at h0
  · exact ⟨g, cap, rfl, hb, (h.cellAt 0 (by simp)).trans rfl, (h.cellAt 1 (by simp)).trans rfl, (h.cellAt 2 (by simp)).trans rfl⟩
theorem slice_of_own {w : World} {B n : Nat} {e : TypeId} {v : Value} {xs : List Value} (h : w.ownsRow B e 1 v n xs) : ∃ a c, v = .slice a n c := by
  rcases h.2 with ⟨rfl, h0⟩ | ⟨g, cap, cur, rfl, _⟩
  · rw [← h0]; exact ⟨_, _, rfl⟩
  · exact ⟨_, _, rfl⟩
set_option maxHeartbeats 2000000 in
theorem l01VRead_any (s : ByteArray) (hs : s.size ≤ 1048576) (w : World) : Calls Tryd.prog 39 #[.string s] w (RV w (partsOf s.data.toList)) := by
  obtain ⟨P, hPs⟩ : ∃ P, RowKit.Hid (partsOf s.data.toList = P) := ⟨_, Lib.hid rfl⟩
  have HC := Lib.hid (l01NRead_any s hs (w.alloc (.cells #[.float .f32 0, .float .f32 0, .float .f32 0] 38)))
  rw [hPs.out] at HC ⊢
  cases hok : nsOk P
  · have HN := Lib.hid (show vOk P = false by simp [vOk, hok])
    go_enter Tryd.func39, Tryd.ntmps39
    go_wp2_with (go_at_call 41; refine (Calls.mono (by exact HC.out) ?_); rintro e w1 ⟨v, rfl, ho, hb1⟩; have hB := (Bl3.new w _ _ _).below hb1 (by simp); obtain ⟨a0, a1, a2⟩ := hB.cells; have f0 := hB.frozen 0; have f1 := hB.frozen 1; have f2 := hB.frozen 2; have hsz := hb1.size; simp at hsz; have hb2 := bl_call (bl_alloc (bl_refl w) _) hb1; clear ho)
    refine bodyPost_ret (results_vec rfl _ _ w.heap.size _ _ _ rfl (hB.sets _ _ _)) rfl ?_
    exact RV_no HN.out (bl_sets hb2 (Nat.le_refl _) _ _ _)
  · by_cases h3 : (nsN P).length = 3
    · have HY := Lib.hid (show vOk P = true by simp [vOk, hok, h3])
      obtain ⟨x, y, z, hxyz⟩ : ∃ x y z, nsN P = [x, y, z] := by
        match nsN P, h3 with
        | [x, y, z], _ => exact ⟨x, y, z, rfl⟩
      have HX := Lib.hid hxyz
      clear hxyz h3
      go_enter Tryd.func39, Tryd.ntmps39
      go_wp2_with (go_at_call 41; refine (Calls.mono (by exact HC.out) ?_); rintro e w1 ⟨v, rfl, ho, hb1⟩; have hB := (Bl3.new w _ _ _).below hb1 (by simp); obtain ⟨a0, a1, a2⟩ := hB.cells; have f0 := hB.frozen 0; have f1 := hB.frozen 1; have f2 := hB.frozen 2; have hsz := hb1.size; simp at hsz; have hb2 := bl_call (bl_alloc (bl_refl w) _) hb1; obtain ⟨g, cap, hsl, hg, c0, c1, c2⟩ := three_of HX.out ho; go_loud (have hg' := bl_new_lt hg); go_loud (have hne : ¬ g = w.heap.size := Nat.ne_of_gt hg'); go_loud (have hne' : ¬ w.heap.size = g := Nat.ne_of_lt hg'); subst hsl; clear ho)
      go_region_with fail
      all_goals (go_wp2_with fail; refine bodyPost_ret (results_vec rfl _ _ w.heap.size _ _ _ rfl (Bl3.sets (by exact hB) _ _ _)) rfl ?_; exact RV_yes HY.out HX.out (by repeat (first | with_reducible exact hb2 | with_reducible refine bl_set ?_ (Nat.le_refl _) _ | with_reducible refine bl_drewN ?_ _ | with_reducible refine bl_drew ?_)))
    · have HN := Lib.hid (show vOk P = false by simp [vOk, h3])
      have hz : (((nsN P).length : Int) == 3) = false := by simp; omega
      go_enter Tryd.func39, Tryd.ntmps39
      go_wp2_with (go_at_call 41; refine (Calls.mono (by exact HC.out) ?_); rintro e w1 ⟨v, rfl, ho, hb1⟩; have hB := (Bl3.new w _ _ _).below hb1 (by simp); obtain ⟨a0, a1, a2⟩ := hB.cells; have f0 := hB.frozen 0; have f1 := hB.frozen 1; have f2 := hB.frozen 2; have hsz := hb1.size; simp at hsz; have hb2 := bl_call (bl_alloc (bl_refl w) _) hb1; obtain ⟨va, vc, rfl⟩ := slice_of_own ho; clear ho)
      refine bodyPost_ret (results_vec rfl _ _ w.heap.size _ _ _ rfl (hB.sets _ _ _)) rfl ?_
      exact RV_no HN.out (bl_sets hb2 (Nat.le_refl _) _ _ _)
set_option maxHeartbeats 2000000 in
theorem ReadVector_any (s : ByteArray) (hs : s.size ≤ 1048576) (w : World) (hw : w.ShapedOpen Tryd.prog) : Calls Tryd.prog 22 #[.string s] w (RV w (partsOf s.data.toList)) := by
  obtain ⟨P, hPs⟩ : ∃ P, RowKit.Hid (partsOf s.data.toList = P) := ⟨_, Lib.hid rfl⟩
  have HC := Lib.hid (ReadNumbers_any s hs (w.alloc (.cells #[.float .f32 0, .float .f32 0, .float .f32 0] 38)) (shaped_below hw (bl_alloc (bl_refl w) _)))
  rw [hPs.out] at HC ⊢
  cases hok : nsOk P
  · have HN := Lib.hid (show vOk P = false by simp [vOk, hok])
    go_enter Tryd.func22, Tryd.ntmps22
    go_wp2_with (go_at_call 25; refine (Calls.mono (by exact HC.out) ?_); rintro e w1 ⟨v, rfl, ho, hb1⟩; have hB := (Bl3.new w _ _ _).below hb1 (by simp); obtain ⟨a0, a1, a2⟩ := hB.cells; have f0 := hB.frozen 0; have f1 := hB.frozen 1; have f2 := hB.frozen 2; have hsz := hb1.size; simp at hsz; have hb2 := bl_call (bl_alloc (bl_refl w) _) hb1; clear ho)
    refine bodyPost_ret (results_vec rfl _ _ w.heap.size _ _ _ rfl (hB.sets _ _ _)) rfl ?_
    exact RV_no HN.out (bl_sets hb2 (Nat.le_refl _) _ _ _)
  · by_cases h3 : (nsN P).length = 3
    · have HY := Lib.hid (show vOk P = true by simp [vOk, hok, h3])
      obtain ⟨x, y, z, hxyz⟩ : ∃ x y z, nsN P = [x, y, z] := by
        match nsN P, h3 with
        | [x, y, z], _ => exact ⟨x, y, z, rfl⟩
      have HX := Lib.hid hxyz
      clear hxyz h3
      go_enter Tryd.func22, Tryd.ntmps22
      go_wp2_with (go_at_call 25; refine (Calls.mono (by exact HC.out) ?_); rintro e w1 ⟨v, rfl, ho, hb1⟩; have hB := (Bl3.new w _ _ _).below hb1 (by simp); obtain ⟨a0, a1, a2⟩ := hB.cells; have f0 := hB.frozen 0; have f1 := hB.frozen 1; have f2 := hB.frozen 2; have hsz := hb1.size; simp at hsz; have hb2 := bl_call (bl_alloc (bl_refl w) _) hb1; obtain ⟨g, cap, hsl, hg, c0, c1, c2⟩ := three_of HX.out ho; go_loud (have hg' := bl_new_lt hg); go_loud (have hne : ¬ g = w.heap.size := Nat.ne_of_gt hg'); go_loud (have hne' : ¬ w.heap.size = g := Nat.ne_of_lt hg'); subst hsl; clear ho)
      go_region_with fail
      all_goals (go_wp2_with fail; refine bodyPost_ret (results_vec rfl _ _ w.heap.size _ _ _ rfl (Bl3.sets (by exact hB) _ _ _)) rfl ?_; exact RV_yes HY.out HX.out (by repeat (first | with_reducible exact hb2 | with_reducible refine bl_set ?_ (Nat.le_refl _) _ | with_reducible refine bl_drewN ?_ _ | with_reducible refine bl_drew ?_)))
    · have HN := Lib.hid (show vOk P = false by simp [vOk, h3])
      have hz : (((nsN P).length : Int) == 3) = false := by simp; omega
      go_enter Tryd.func22, Tryd.ntmps22
      go_wp2_with (go_at_call 25; refine (Calls.mono (by exact HC.out) ?_); rintro e w1 ⟨v, rfl, ho, hb1⟩; have hB := (Bl3.new w _ _ _).below hb1 (by simp); obtain ⟨a0, a1, a2⟩ := hB.cells; have f0 := hB.frozen 0; have f1 := hB.frozen 1; have f2 := hB.frozen 2; have hsz := hb1.size; simp at hsz; have hb2 := bl_call (bl_alloc (bl_refl w) _) hb1; obtain ⟨va, vc, rfl⟩ := slice_of_own ho; clear ho)
      refine bodyPost_ret (results_vec rfl _ _ w.heap.size _ _ _ rfl (hB.sets _ _ _)) rfl ?_
      exact RV_no HN.out (bl_sets hb2 (Nat.le_refl _) _ _ _)
set_option maxHeartbeats 1000000 in
theorem spec_ReadVector_any (s : ByteArray) (hs : s.size ≤ 1048576) (w : World) : Calls Tryd.prog 21 #[.string s] w (RV w (partsOf s.data.toList)) := by
  go_enter Tryd.func21, Tryd.ntmps21
  go_wp2_with (go_at_call 39; refine (l01VRead_any s hs _).mono ?_; rintro e w1 ⟨rfl, hb1⟩; have hB := (Bl3.new w _ _ _).below hb1 (by simp); obtain ⟨a0, a1, a2⟩ := hB.cells; have f0 := hB.frozen 0; have f1 := hB.frozen 1; have f2 := hB.frozen 2; have hsz := hb1.size; simp at hsz; have hb2 := bl_call (bl_alloc (bl_refl w) _) hb1)
  refine bodyPost_ret (results_vec rfl _ _ w.heap.size _ _ _ rfl (hB.sets _ _ _)) rfl ?_
  exact ⟨rfl, bl_sets hb2 (Nat.le_refl _) _ _ _⟩
end Go.Proofs.YtncmpbgekmaoeaaDoor
