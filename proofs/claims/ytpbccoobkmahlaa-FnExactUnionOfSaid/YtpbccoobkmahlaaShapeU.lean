/- Shapes copied by the laws: the list of nodes, the shape. No conditions but bounds. -/
import Derived.Test.YtpbccoobkmahlaaShapeT
import Derived.OwnWalk
namespace Go.Proofs.Ytpbccoobkmahlaa
open Go.Fl Go.RowKit

theorem info_nd : (Try.prog.info? 78).map (fun i => (i.zero, i.size, i.bytes)) = some (some (.agg #[.int .i64 0, .int .i64 0, .int .i64 0, .slice none 0 0]), 4, 48) := by kernel_rfl
/-- A node in the block g, its numbers in another block. -/
def NdC (w : World) (B g j : Nat) (d : Nd) : Prop :=
  w.cell? ⟨g, j * 4, none⟩ = some (.int .i64 d.k) ∧ w.cell? ⟨g, j * 4 + 1, none⟩ = some (.int .i64 d.a) ∧ w.cell? ⟨g, j * 4 + 2, none⟩ = some (.int .i64 d.b) ∧
    ∃ q, (q ≠ g ∧ B ≤ q) ∧ w.cell? ⟨g, j * 4 + 3, none⟩ = some (.slice (some ⟨q, 0, none⟩) d.xs.length d.xs.length) ∧ FIn w (.slice (some ⟨q, 0, none⟩) d.xs.length d.xs.length) d.xs
theorem NdC.keep {w w' : World} {B g j : Nat} {d : Nd} (h : NdC w B g j d) (hb : Below w.heap.size w w') : NdC w' B g j d := by
  obtain ⟨h0, h1, h2, q, hq, h3, hf⟩ := h
  have hg : g < w.heap.size := World.block_lt_of_cell? w _ h0
  exact ⟨(hb.cell (p := ⟨g, _, none⟩) hg).trans h0, (hb.cell (p := ⟨g, _, none⟩) hg).trans h1, (hb.cell (p := ⟨g, _, none⟩) hg).trans h2, q, hq, (hb.cell (p := ⟨g, _, none⟩) hg).trans h3, hf.keep hb⟩
theorem NdC.set {w : World} {B g j i : Nat} {d : Nd} (h : NdC w B g j d) (hi : i < j * 4 ∨ j * 4 + 4 ≤ i) (u : Value) : NdC (w.setCell ⟨g, i, none⟩ u) B g j d := by
  obtain ⟨h0, h1, h2, q, hq, h3, hf⟩ := h
  have ne : ∀ m, m < 4 → (⟨g, i, none⟩ : Addr) ≠ ⟨g, j * 4 + m, none⟩ := fun m hm e => by injection e with _ e; omega
  exact ⟨(World.cell?_setCell_other _ _ _ _ (ne 0 (by omega))).trans h0, (World.cell?_setCell_other _ _ _ _ (ne 1 (by omega))).trans h1, (World.cell?_setCell_other _ _ _ _ (ne 2 (by omega))).trans h2, q, hq,
    (World.cell?_setCell_other _ _ _ _ (ne 3 (by omega))).trans h3, hf.far (fun e => hq.1 e.symm) u⟩
/-- The row of n nodes in the block g, k of them laid. -/
def RowB (w : World) (B g n k : Nat) (L : List Nd) : Prop := ∃ cs, w.heap[g]? = some (.cells cs 78 (0, 0)) ∧ cs.size = n * 4 ∧ ∀ j, j < k → NdC w B g j (L.getD j default)
theorem RowB.lt {w : World} {B g n k : Nat} {L : List Nd} (h : RowB w B g n k L) : g < w.heap.size := by
  obtain ⟨cs, h1, _⟩ := h
  rcases Nat.lt_or_ge g w.heap.size with hlt | hge
  · exact hlt
  · rw [Array.getElem?_eq_none hge] at h1; cases h1
theorem RowB.keep {w w' : World} {B g n k : Nat} {L : List Nd} (h : RowB w B g n k L) (hb : Below w.heap.size w w') : RowB w' B g n k L := by
  have hlt := h.lt
  obtain ⟨cs, h1, h2, h3⟩ := h
  exact ⟨cs, (hb.block g hlt).trans h1, h2, fun j hj => (h3 j hj).keep hb⟩
theorem RowB.place {w : World} {B g n k : Nat} {L : List Nd} (h : RowB w B g n k L) (i : Nat) (hi : i < n * 4) : (∃ u, w.cell? ⟨g, i, none⟩ = some u) ∧ w.frozen? ⟨g, i, none⟩ = false := by
  obtain ⟨cs, h1, h2, _⟩ := h
  refine ⟨⟨cs[i], ?_⟩, by simp [World.frozen?, h1]⟩
  rw [cell_of_row w g i cs _ (0, 0) h1]
  exact Array.getElem?_eq_getElem (by omega)
theorem heap_set {w : World} {g i : Nat} {cs : Array Value} {t : TypeId} (h : w.heap[g]? = some (.cells cs t (0, 0))) (u : Value) : (w.setCell ⟨g, i, none⟩ u).heap[g]? = some (.cells (cs.setIfInBounds i u) t (0, 0)) := by
  simp [World.setCell, Array.getElem?_modify, h]
def lay4 (w : World) (g j : Nat) (a b c d : Value) : World := (((w.setCell ⟨g, j * 4, none⟩ a).setCell ⟨g, j * 4 + 1, none⟩ b).setCell ⟨g, j * 4 + 2, none⟩ c).setCell ⟨g, j * 4 + 3, none⟩ d
theorem RowB.store {w : World} {B g n k q : Nat} {L : List Nd} {d : Nd} (h : RowB w B g n k L) (hk : k < n) (hd : L.getD k default = d) (hq : q ≠ g ∧ B ≤ q) (hf : FIn w (.slice (some ⟨q, 0, none⟩) d.xs.length d.xs.length) d.xs) :
    RowB (lay4 w g k (.int .i64 d.k) (.int .i64 d.a) (.int .i64 d.b) (.slice (some ⟨q, 0, none⟩) d.xs.length d.xs.length)) B g n (k + 1) L := by
  obtain ⟨cs, h1, h2, h3⟩ := h
  have hB := heap_set (i := k * 4 + 3) (heap_set (i := k * 4 + 2) (heap_set (i := k * 4 + 1) (heap_set (i := k * 4) h1 (.int .i64 d.k)) (.int .i64 d.a)) (.int .i64 d.b)) (.slice (some ⟨q, 0, none⟩) d.xs.length d.xs.length)
  refine ⟨_, hB, by simp [h2], fun j hj => ?_⟩
  by_cases hjk : j = k
  · subst hjk
    rw [hd]
    refine ⟨?_, ?_, ?_, q, hq, ?_, ?_⟩
    · refine (cell_of_row _ g _ _ _ (0, 0) hB).trans ?_
      simp [Array.getElem?_setIfInBounds, h2]; omega
    · refine (cell_of_row _ g _ _ _ (0, 0) hB).trans ?_
      simp [Array.getElem?_setIfInBounds, h2]; omega
    · refine (cell_of_row _ g _ _ _ (0, 0) hB).trans ?_
      simp [Array.getElem?_setIfInBounds, h2]; omega
    · refine (cell_of_row _ g _ _ _ (0, 0) hB).trans ?_
      simp [Array.getElem?_setIfInBounds, h2]; omega
    · exact (((hf.far (fun e => hq.1 e.symm) _).far (fun e => hq.1 e.symm) _).far (fun e => hq.1 e.symm) _).far (fun e => hq.1 e.symm) _
  · have hj' : j < k := by omega
    exact ((((h3 j hj').set (by omega) _).set (by omega) _).set (by omega) _).set (by omega) _
/-- The slice v holds the nodes L in new memory from B on. -/
def NodesOn (w : World) (B : Nat) (v : Value) (L : List Nd) : Prop := ∃ g, v = .slice (some ⟨g, 0, none⟩) L.length L.length ∧ B ≤ g ∧ g < w.heap.size ∧ ∀ i, i < L.length → NdC w B g i (L.getD i default)
theorem RowB.done {w : World} {B g : Nat} {L : List Nd} (h : RowB w B g L.length L.length L) (hB : B ≤ g) : NodesOn w B (.slice (some ⟨g, 0, none⟩) L.length L.length) L := by
  have hlt := h.lt
  obtain ⟨cs, h1, h2, h3⟩ := h
  exact ⟨g, rfl, hB, hlt, h3⟩
theorem NodesOn.keep {w w' : World} {B : Nat} {v : Value} {L : List Nd} (h : NodesOn w B v L) (hb : Below w.heap.size w w') : NodesOn w' B v L := by
  obtain ⟨g, rfl, hB, hlt, hc⟩ := h
  exact ⟨g, rfl, hB, Nat.lt_of_lt_of_le hlt hb.size, fun i hi => (hc i hi).keep hb⟩
theorem NodesOn.low {w : World} {B : Nat} {v : Value} {L : List Nd} (h : NodesOn w B v L) {p : Addr} (hp : p.block < B) (u : Value) : NodesOn (w.setCell p u) B v L := by
  obtain ⟨g, rfl, hB, hlt, hc⟩ := h
  refine ⟨g, rfl, hB, by simpa [World.setCell] using hlt, fun i hi => ?_⟩
  obtain ⟨h0, h1, h2, q, hq, h3, hf⟩ := hc i hi
  have hne : p.block ≠ g := by omega
  exact ⟨(World.cell?_setCell_far _ _ _ _ hne).trans h0, (World.cell?_setCell_far _ _ _ _ hne).trans h1, (World.cell?_setCell_far _ _ _ _ hne).trans h2, q, hq, (World.cell?_setCell_far _ _ _ _ hne).trans h3, hf.far (by have := hq.2; omega) u⟩
theorem NodesOn.nodes {w : World} {B : Nat} {v : Value} {L : List Nd} (h : NodesOn w B v L) : NodesIn w v L := by
  obtain ⟨g, rfl, hB, hlt, h3⟩ := h
  refine ⟨_, _, rfl, .inr ⟨g, 0, rfl, fun i hi => ?_⟩⟩
  obtain ⟨c0, c1, c2, q, _, c3, hf⟩ := h3 i hi
  rw [Nat.zero_add]
  exact ⟨c0, c1, c2, _, c3, hf⟩
theorem NodesOn.mono {w : World} {B B' : Nat} {v : Value} {L : List Nd} (h : NodesOn w B v L) (hb : B' ≤ B) : NodesOn w B' v L := by
  obtain ⟨g, rfl, hB, hlt, hc⟩ := h
  refine ⟨g, rfl, Nat.le_trans hb hB, hlt, fun i hi => ?_⟩
  obtain ⟨h0, h1, h2, q, hq, h3, hf⟩ := hc i hi
  exact ⟨h0, h1, h2, q, ⟨hq.1, Nat.le_trans hb hq.2⟩, h3, hf⟩
theorem RowB.of_own {w : World} {B B' g n : Nat} {xs : List Value} {L : List Nd} (h : w.ownsRow B 78 4 (.slice (some ⟨g, 0, none⟩) n n) n xs) : RowB w B' g n 0 L := by
  rcases h.2 with ⟨he, _⟩ | ⟨g', cap, cur, he, hb, hg, hle, hm, hs, rest⟩
  · cases he
  · injection he with e1 e2 e3
    injection e1 with e1
    injection e1 with e1
    subst e1 e3
    exact ⟨cur, hg, hs, fun j hj => by omega⟩
set_option maxHeartbeats 1000000 in
theorem toNodeS_any (v : Value) (L : List Nd) (w : World) (h : NodesIn w v L) (hn : tot L ≤ 1048576) :
    Calls Try.prog 58 #[v] w fun e w' => ∃ v, e = .returned v ∧ NodesOn w' w.heap.size v L ∧ Below w.heap.size w w' := by
  obtain ⟨i0, hi, hz0, hz1, hz2⟩ := info_parts info_nd
  have hlen : L.length ≤ 1048576 := by unfold tot at hn; omega
  have hb2 : i0.bytes * L.length ≤ 281474976710656 := by rw [hz2]; omega
  have hb3 : L.length ≤ maxLen := by unfold maxLen; omega
  obtain ⟨a, cap, rfl, _⟩ := id h
  have H := Lib.hid h
  have HT := Lib.hid hn
  clear h hn
  go_enter Try.func58, Try.ntmps58
  go_wp2_with (at_make; refine wpList_make_full _ rfl _ _ 24 rfl w.heap.size 78 i0 _ 4 Try.underlying24 hi hz0 hz1 .i64 .i64 _ _ L.length rfl rfl rfl rfl hb2 hb3 (Nat.le_refl _) ?_; intro w1 hown hgrow)
  have hbl := (bl_refl w).grown hgrow (Nat.le_refl _) (fun k hk => by cases hk)
  have hrow := RowB.of_own (L := L) (B' := w.heap.size) hown
  clear hgrow hown
  go_loopw [4] (fun i wr => ∃ k : Nat, k ≤ L.length ∧ i = .int .i64 k ∧ RowB wr w.heap.size w.heap.size L.length k L ∧ Below w.heap.size w wr) (fun i _ => L.length - (intOf i).toNat)
  case atStart => exact ⟨0, Nat.zero_le _, rfl, hrow, hbl⟩
  case round =>
    clear hrow hbl
    obtain ⟨k, hk, rfl, hrow, hbw⟩ := hrel
    by_cases hlt : k < L.length
    · obtain ⟨g, o, rfl, hg, hc0, hc1, hc2, nv, hc3, hF⟩ := (H.out.keep hbw).at_ hlt
      obtain ⟨d, hd⟩ : ∃ d, L.getD k default = d := ⟨_, rfl⟩
      rw [hd] at hc0 hc1 hc2 hF
      have hdx : d.xs.length ≤ 1048576 := by
        have e : L[k] = d := by rw [← hd]; simp [hlt]
        have := sumX_mem (L := L) (d := d) (by rw [← e]; exact List.getElem_mem hlt)
        have := HT.out
        unfold tot at this; omega
      have HC := Lib.hid (toNode_any d.k d.a d.b nv d.xs wr hF hdx)
      have Hd := Lib.hid hd
      have HR := Lib.hid hrow
      have hrl := hrow.lt
      clear hd hF hrow
      go_wp2_with (go_at_call 87; refine (Calls.mono (by exact HC.out) ?_); rintro e w2 ⟨q, rfl, hq, hF2, hb2⟩; have hrow2 := HR.out.keep hb2; have p0 := hrow2.place (k * 4) (by omega); have p1 := hrow2.place (k * 4 + 1) (by omega); have p2 := hrow2.place (k * 4 + 2) (by omega); have p3 := hrow2.place (k * 4 + 3) (by omega); obtain ⟨⟨u0, d0⟩, f0⟩ := p0; obtain ⟨⟨u1, d1⟩, f1⟩ := p1; obtain ⟨⟨u2, d2⟩, f2⟩ := p2; obtain ⟨⟨u3, d3⟩, f3⟩ := p3)
      go_roundw
      case rel => exact ⟨k + 1, by omega, by go_num, RowB.store hrow2 hlt Hd.out ⟨by omega, by omega⟩ hF2, bl_set (bl_set (bl_set (bl_set (bl_call hbw hb2) (Nat.le_refl _) _) (Nat.le_refl _) _) (Nat.le_refl _) _) (Nat.le_refl _) _⟩
      case measure => simp [intOf]; omega
    · obtain rfl : k = L.length := by omega
      have hD := hrow.done (Nat.le_refl _)
      clear hrow
      go_wp2
      go_ret
      exact ⟨_, rfl, hD, hbw⟩
def Bl1 (w : World) (g : Nat) (x : Value) : Prop := w.heap[g]? = some (.cells #[x] 26 (0, 0))
theorem Bl1.cell {w : World} {g : Nat} {x : Value} (h : Bl1 w g x) : w.cell? ⟨g, 0, none⟩ = some x := cell_of_row w g 0 _ _ (0, 0) h
theorem Bl1.frozen {w : World} {g : Nat} {x : Value} (h : Bl1 w g x) : w.frozen? ⟨g, 0, none⟩ = false := by
  unfold Bl1 at h
  simp [World.frozen?, h]
theorem Bl1.below {w w' : World} {B g : Nat} {x : Value} (h : Bl1 w g x) (hb : Below B w w') (hg : g < B) : Bl1 w' g x := (hb.block g hg).trans h
theorem Bl1.far {w : World} {g : Nat} {x : Value} (h : Bl1 w g x) {p : Addr} (hp : g ≠ p.block) (q : Value) : Bl1 (w.setCell p q) g x := (Below.heap_setCell w p q g hp).trans h
theorem Bl1.set {w : World} {g : Nat} {x : Value} (h : Bl1 w g x) (a : Value) : Bl1 (w.setCell ⟨g, 0, none⟩ a) g a := by
  unfold Bl1 at h ⊢
  simp [World.setCell, Array.getElem?_modify, h]
set_option maxHeartbeats 1000000 in
theorem toShape_any (v : Value) (L : List Nd) (w : World) (h : NodesIn w v L) (hn : tot L ≤ 1048576) :
    Calls Try.prog 24 #[.agg #[v]] w fun e w' => ∃ u, e = .returned (.agg #[u]) ∧ NodesOn w' w.heap.size u L ∧ Below w.heap.size w w' := by
  obtain ⟨av, cv, rfl, _⟩ := id h
  go_enter Try.func24, Try.ntmps24
  go_wp2_with fail
  have hb0 : Below w.heap.size w (((w.alloc (.cells #[.slice av L.length cv] 38)).alloc (.cells #[.slice none 0 0] 26)).alloc (.cells #[.slice none 0 0] 26)) := bl_alloc (bl_alloc (bl_alloc (bl_refl w) _) _) _
  refine (toNodeS_any _ L _ (h.keep hb0) hn).mono ?_
  rintro e w1 ⟨u, rfl, hu, hb1⟩
  obtain ⟨gu, hgu, _⟩ := id hu
  subst hgu
  have hsz := hb1.size
  simp at hsz
  have hO : Bl1 w1 (w.heap.size + 1 + 1) (.slice none 0 0) := Bl1.below (new3 _ _ _ _) hb1 (by simp)
  have hR : Bl1 w1 (w.heap.size + 1) (.slice none 0 0) := Bl1.below (new2 _ _ _ _) hb1 (by simp)
  have o0 := hO.cell
  have r0 := hR.cell
  have fo := hO.frozen
  have fr := hR.frozen
  go_wp2_with fail
  refine bodyPost_ret (results_cell_row rfl _ _ (w.heap.size + 1) 26 _ (0, 0) _ rfl (Bl1.set (hR.far (p := ⟨w.heap.size + 1 + 1, 0, none⟩) (by simp) _) _) Try.underlying26 rfl (by kernel_rfl)) rfl ?_
  refine ⟨_, rfl, ?_, ?_⟩
  · exact ((hu.low (by simp) _).low (by simp) _).mono (by simp; omega)
  · have hb2 := bl_call hb0 hb1
    exact bl_set (bl_set hb2 (by show _ ≤ w.heap.size + 1 + 1; omega) _) (by show _ ≤ w.heap.size + 1; omega) _
end Go.Proofs.Ytpbccoobkmahlaa
