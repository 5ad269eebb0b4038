/- Shapes copied by the laws. No conditions but bounds. -/
import Derived.Test.YtpbccoobkmahlaaShapeC
namespace Go.Proofs.Ytpbccoobkmahlaa
open Go.Fl Go.RowKit

def Bl4 (w : World) (g : Nat) (x y z u : Value) : Prop := w.heap[g]? = some (.cells #[x, y, z, u] 78 (0, 0))
theorem Bl4.cells {w : World} {g : Nat} {x y z u : Value} (h : Bl4 w g x y z u) : w.cell? ⟨g, 0, none⟩ = some x ∧ w.cell? ⟨g, 1, none⟩ = some y ∧ w.cell? ⟨g, 2, none⟩ = some z ∧ w.cell? ⟨g, 3, none⟩ = some u :=
  ⟨cell_of_row w g 0 _ _ (0, 0) h, cell_of_row w g 1 _ _ (0, 0) h, cell_of_row w g 2 _ _ (0, 0) h, cell_of_row w g 3 _ _ (0, 0) h⟩
theorem Bl4.frozen {w : World} {g : Nat} {x y z u : Value} (h : Bl4 w g x y z u) (i : Nat) : w.frozen? ⟨g, i, none⟩ = false := by
  unfold Bl4 at h
  simp [World.frozen?, h]
theorem Bl4.below {w w' : World} {B g : Nat} {x y z u : Value} (h : Bl4 w g x y z u) (hb : Below B w w') (hg : g < B) : Bl4 w' g x y z u := (hb.block g hg).trans h
theorem Bl4.far {w : World} {g : Nat} {x y z u : Value} (h : Bl4 w g x y z u) {p : Addr} (hp : g ≠ p.block) (q : Value) : Bl4 (w.setCell p q) g x y z u := (Below.heap_setCell w p q g hp).trans h
theorem Bl4.sets {w : World} {g : Nat} {x y z u : Value} (h : Bl4 w g x y z u) (a b c d : Value) : Bl4 ((((w.setCell ⟨g, 0, none⟩ a).setCell ⟨g, 1, none⟩ b).setCell ⟨g, 2, none⟩ c).setCell ⟨g, 3, none⟩ d) g a b c d := by
  unfold Bl4 at h ⊢
  simp [World.setCell, Array.getElem?_modify, h]
theorem new3 (w : World) (o1 o2 : Obj) (cs : Array Value) {t : TypeId} : (((w.alloc o1).alloc o2).alloc (.cells cs t)).heap[w.heap.size + 1 + 1]? = some (.cells cs t (0, 0)) := by
  have e : ((w.alloc o1).alloc o2).heap.size = w.heap.size + 1 + 1 := by simp
  rw [← e]; exact heap_alloc_new _ _
theorem new2 (w : World) (o1 o3 : Obj) (cs : Array Value) {t : TypeId} : (((w.alloc o1).alloc (.cells cs t)).alloc o3).heap[w.heap.size + 1]? = some (.cells cs t (0, 0)) := by
  have e : (w.alloc o1).heap.size = w.heap.size + 1 := by simp
  exact (Below.heap_alloc _ _ _ (by simp)).trans (by rw [← e]; exact heap_alloc_new _ _)
theorem FIn.far {w : World} {g n c : Nat} {xs : List Nat} (h : FIn w (.slice (some ⟨g, 0, none⟩) n c) xs) {p : Addr} (hp : p.block ≠ g) (u : Value) : FIn (w.setCell p u) (.slice (some ⟨g, 0, none⟩) n c) xs := by
  obtain ⟨a, cap, e, he | ⟨b, o, rfl, hc⟩⟩ := h
  · exact ⟨a, cap, e, .inl he⟩
  · injection e with e1 e2 e3
    injection e1 with e1
    injection e1 with e4 e5
    subst e4 e5
    exact ⟨_, cap, by rw [e2, e3], .inr ⟨g, 0, rfl, fun i hi => (World.cell?_setCell_far _ _ _ _ hp).trans (hc i hi)⟩⟩
set_option maxHeartbeats 1000000 in
theorem toNode_any (k a b : Int) (v : Value) (xs : List Nat) (w : World) (h : FIn w v xs) (hn : xs.length ≤ 1048576) :
    Calls Try.prog 87 #[.agg #[.int .i64 k, .int .i64 a, .int .i64 b, v]] w fun e w' => ∃ g, e = .returned (.agg #[.int .i64 k, .int .i64 a, .int .i64 b, .slice (some ⟨g, 0, none⟩) xs.length xs.length]) ∧ w.heap.size ≤ g ∧ FIn w' (.slice (some ⟨g, 0, none⟩) xs.length xs.length) xs ∧ Below w.heap.size w w' := by
  obtain ⟨av, cv, rfl, _⟩ := id h
  go_enter Try.func87, Try.ntmps87
  go_wp2_with fail
  have hb0 : Below w.heap.size w (((w.alloc (.cells #[.int .i64 k, .int .i64 a, .int .i64 b, .slice av xs.length cv] 107)).alloc (.cells #[.int .i64 0, .int .i64 0, .int .i64 0, .slice none 0 0] 78)).alloc (.cells #[.int .i64 k, .int .i64 a, .int .i64 b, .slice none 0 0] 78)) := bl_alloc (bl_alloc (bl_alloc (bl_refl w) _) _) _
  refine (toFloat32S_any _ xs _ (h.keep hb0) hn).mono ?_
  rintro e w1 ⟨g, rfl, hg, ho, hb1⟩
  have hF := FIn_of_row rfl ho
  have hsz := hb1.size
  simp at hsz hg
  have hO : Bl4 w1 (w.heap.size + 1 + 1) (.int .i64 k) (.int .i64 a) (.int .i64 b) (.slice none 0 0) := Bl4.below (new3 _ _ _ _) hb1 (by simp)
  have hR : Bl4 w1 (w.heap.size + 1) (.int .i64 0) (.int .i64 0) (.int .i64 0) (.slice none 0 0) := Bl4.below (new2 _ _ _ _) hb1 (by simp)
  obtain ⟨o0, o1, o2, o3⟩ := hO.cells
  obtain ⟨r0, r1, r2, r3⟩ := hR.cells
  have fo := hO.frozen 3
  have f0 := hR.frozen 0
  have f1 := hR.frozen 1
  have f2 := hR.frozen 2
  have f3 := hR.frozen 3
  go_wp2_with fail
  have hne1 : w.heap.size + 1 + 1 ≠ g := by omega
  have hne2 : w.heap.size + 1 ≠ g := by omega
  refine bodyPost_ret (results_cell_row rfl _ _ (w.heap.size + 1) 78 _ (0, 0) _ rfl (Bl4.sets (hR.far (by simp) _) _ _ _ _) Try.underlying78 rfl (by kernel_rfl)) rfl ?_
  refine ⟨g, rfl, by omega, ?_, ?_⟩
  · exact ((((hF.far hne1 _).far hne2 _).far hne2 _).far hne2 _).far hne2 _
  · have hb2 := bl_call hb0 hb1
    exact bl_set (bl_set (bl_set (bl_set (bl_set hb2 (by show _ ≤ w.heap.size + 1 + 1; omega) _) (by show _ ≤ w.heap.size + 1; omega) _) (by show _ ≤ w.heap.size + 1; omega) _) (by show _ ≤ w.heap.size + 1; omega) _) (by show _ ≤ w.heap.size + 1; omega) _
end Go.Proofs.Ytpbccoobkmahlaa
