/- Nodes and shapes cloned by the program; a shape told if it is right. No conditions but bounds. -/
import Derived.Test.YtpbccoobkmahlaaClone
import Derived.WalkSpells
namespace Go.Proofs.Ytpbccoobkmahlaa
open Go.Fl Go.RowKit

set_option maxRecDepth 20000 in
theorem Clone_any (v : Value) (xs : List Nat) (w : World) (h : FIn w v xs) (hn : xs.length ≤ 1048576) : Calls Try.prog 107 #[v] w fun e w' => ∃ nv, e = .returned nv ∧ NewNum w w' nv xs ∧ Below w.heap.size w w' := by
  obtain ⟨i0, hi, hz0, hz1, hz2⟩ := info_parts info_f32
  obtain ⟨a, cap, rfl, he⟩ := id h
  have H := Lib.hid h
  have qn : ∀ (W : World) (r : Option Addr) (m c : Nat), (binOp .eql 46 (.slice r m c) (.slice none 0 0)).run Try.prog W = .ok (.bool r.isNone) W := fun W r m c => Lib.run_eql_slice_nil W _ _ r m c 0 0 Try.underlying46
  clear h
  cases a with
  | none =>
    obtain rfl : xs = [] := by
      rcases he with he | ⟨bb, oo, e, _⟩
      · exact he
      · cases e
    clear he
    go_enter Try.func107, Try.ntmps107
    go_wp2_with fail
    go_ret
    exact ⟨_, rfl, ⟨none, 0, rfl, .inl rfl⟩, bl_refl _⟩
  | some b =>
    clear he
    have hb1 := bl1 w (.cells #[] 61)
    have hown := World.ownsRow_made (base := w.heap.size) (e := 61) (size := 1) w #[] 0 (Nat.le_refl _) (by decide) (by simp)
    go_enter Try.func107, Try.ntmps107
    go_wp2_with (at_builtin; refine wpList_append_fin (w0 := w) rfl (.tmp 5) (.tmp 6) rfl i0 hi hz0 hz1 hz2 _ rfl hown _ rfl xs (H.out.keep hb1) hn hb1.size ?_; intro nv w' hN hb _)
    go_ret
    exact ⟨nv, rfl, hN, hb1.trans hb⟩
theorem NewNum.low {w0 w : World} {nv : Value} {xs : List Nat} (h : NewNum w0 w nv xs) {p : Addr} (hp : p.block < w0.heap.size) (u : Value) : NewNum w0 (w.setCell p u) nv xs := by
  obtain ⟨a, c, e, he | ⟨q, ha, hq, ho⟩⟩ := h
  · exact ⟨a, c, e, .inl he⟩
  · exact ⟨a, c, e, .inr ⟨q, ha, hq, ownsRow_setCell_below ho hp u⟩⟩
theorem Bl4.set3 {w : World} {g : Nat} {x y z u : Value} (h : Bl4 w g x y z u) (d : Value) : Bl4 (w.setCell ⟨g, 3, none⟩ d) g x y z d := by
  unfold Bl4 at h ⊢
  simp [World.setCell, Array.getElem?_modify, h]
theorem Bl4.new1of2 (w : World) (x y z u x' y' z' u' : Value) : Bl4 ((w.alloc (.cells #[x, y, z, u] 78)).alloc (.cells #[x', y', z', u'] 78)) w.heap.size x y z u :=
  (Below.heap_alloc _ _ _ (by simp)).trans (heap_alloc_new w _)
theorem Bl4.new2of2 (w : World) (x y z u x' y' z' u' : Value) : Bl4 ((w.alloc (.cells #[x, y, z, u] 78)).alloc (.cells #[x', y', z', u'] 78)) (w.heap.size + 1) x' y' z' u' := by
  have e : w.heap.size + 1 = (w.alloc (.cells #[x, y, z, u] 78)).heap.size := by simp
  rw [e]; exact heap_alloc_new _ _
set_option maxHeartbeats 1000000 in
theorem cloneNode_any (k a b : Int) (v : Value) (xs : List Nat) (w : World) (h : FIn w v xs) (hn : xs.length ≤ 1048576) :
    Calls Try.prog 93 #[.agg #[.int .i64 k, .int .i64 a, .int .i64 b, v]] w fun e w' => ∃ nv, e = .returned (.agg #[.int .i64 k, .int .i64 a, .int .i64 b, nv]) ∧ NewNum w w' nv xs ∧ Below w.heap.size w w' := by
  have hb0 := bl2 w (.cells #[.int .i64 k, .int .i64 a, .int .i64 b, v] 78) (.cells #[.int .i64 0, .int .i64 0, .int .i64 0, .slice none 0 0] 78)
  have hA := Bl4.new1of2 w (.int .i64 k) (.int .i64 a) (.int .i64 b) v (.int .i64 0) (.int .i64 0) (.int .i64 0) (.slice none 0 0)
  have hB := Bl4.new2of2 w (.int .i64 k) (.int .i64 a) (.int .i64 b) v (.int .i64 0) (.int .i64 0) (.int .i64 0) (.slice none 0 0)
  have HC := Lib.hid (Clone_any v xs _ (h.keep hb0) hn)
  obtain ⟨av, cv, rfl, _⟩ := id h
  clear h
  have HA := Lib.hid hA
  have HB := Lib.hid hB
  clear hA hB
  go_enter Try.func93, Try.ntmps93
  go_wp2_with (go_at_call 107; refine (Calls.mono (by exact HC.out) ?_); rintro e w1 ⟨nv, rfl, hN, hb1⟩; obtain ⟨na, nc, hnv, _⟩ := id hN; subst hnv; have hA1 := HA.out.below hb1 (by simp; omega); have hB1 := HB.out.below hb1 (by simp); obtain ⟨o0, o1, o2, o3⟩ := hA1.cells; obtain ⟨r0, r1, r2, r3⟩ := hB1.cells; have fo := hA1.frozen 3; have f0 := hB1.frozen 0; have f1 := hB1.frozen 1; have f2 := hB1.frozen 2; have f3 := hB1.frozen 3)
  refine bodyPost_ret (results_cell_row rfl _ _ (w.heap.size + 1) 78 _ (0, 0) _ rfl (Bl4.sets (hB1.far (p := ⟨w.heap.size, 3, none⟩) (by simp) _) _ _ _ _) Try.underlying78 rfl (by kernel_rfl)) rfl ?_
  refine ⟨_, rfl, ?_, ?_⟩
  · exact (((((hN.low (by simp; omega) _).low (by simp) _).low (by simp) _).low (by simp) _).low (by simp) _).base (by simp; omega)
  · have hb2 := bl_call hb0 hb1
    exact bl_set (bl_set (bl_set (bl_set (bl_set hb2 (Nat.le_refl _) _) (by show _ ≤ w.heap.size + 1; omega) _) (by show _ ≤ w.heap.size + 1; omega) _) (by show _ ≤ w.heap.size + 1; omega) _) (by show _ ≤ w.heap.size + 1; omega) _
end Go.Proofs.Ytpbccoobkmahlaa
