/- Shapes in memory of a call's own: what they hold, what keeps them. No conditions. -/
import Derived.Test.YtpbccoobkmahlaaShapeE
import Derived.Test.YtpbccoobkmahlaaMarkF
namespace Go.Proofs.Ytpbccoobkmahlaa
open Go.Fl Go.RowKit

theorem below_grown {w w' : World} (h : Below w.heap.size w w') (row : Option Nat) : w.grownBy w' row := ⟨h.os, h.tape, h.output, h.size, fun k hk _ => h.block k hk⟩
theorem own_keep {w w' : World} {B n s : Nat} {e : TypeId} {v : Value} {xs : List Value} (h : w.ownsRow B e s v n xs) (hb : Below w.heap.size w w') : w'.ownsRow B e s v n xs :=
  h.kept (below_grown hb none) (by cases v.ownBlock <;> simp)
theorem un_drewN {w w' : World} {n : Nat} (h : Below (w.drewN n).heap.size (w.drewN n) w') : Below w.heap.size w w' := ⟨h.os, h.tape, h.output, h.size, h.block⟩
theorem own_drewN {w : World} {B n s : Nat} {e : TypeId} {v : Value} {xs : List Value} (h : w.ownsRow B e s v n xs) (m : Nat) : (w.drewN m).ownsRow B e s v n xs := h
theorem grown_of_drewN {w w' : World} {n : Nat} {row : Option Nat} (h : (w.drewN n).grownBy w' row) : w.grownBy w' row := ⟨h.os, h.tape, h.output, h.size, h.block⟩
theorem bl_grown {w W w1 : World} {B n s : Nat} {e : TypeId} {v : Value} {xs : List Value} (h : Below w.heap.size w W) (hg : W.grownBy w1 v.ownBlock) (ho : W.ownsRow B e s v n xs) (hB : w.heap.size ≤ B) : Below w.heap.size w w1 :=
  h.grown hg h.size (fun k hk => Nat.le_trans hB (ho.lt k hk).1)
/-- What the call owns, moved to a lower bound. -/
theorem own_mono {w : World} {B B' n s : Nat} {e : TypeId} {v : Value} {xs : List Value} (h : w.ownsRow B e s v n xs) (hB : B' ≤ B) : w.ownsRow B' e s v n xs := by
  obtain ⟨h1, h2 | ⟨g, cap, cur, hv, hg, r⟩⟩ := h
  · exact ⟨h1, .inl h2⟩
  · exact ⟨h1, .inr ⟨g, cap, cur, hv, Nat.le_trans hB hg, r⟩⟩
/-- A node with the value of its numbers and the block in which they lie. -/
structure PNd where
  d : Nd
  nv : Value
  q : Nat
instance : Inhabited PNd := ⟨⟨default, .slice none 0 0, 0⟩⟩
def fl4 (p : PNd) : List Value := [.int .i64 p.d.k, .int .i64 p.d.a, .int .i64 p.d.b, p.nv]
def flatP : List PNd → List Value
  | [] => []
  | p :: r => fl4 p ++ flatP r
theorem flatP_len : ∀ P : List PNd, (flatP P).length = P.length * 4
  | [] => rfl
  | p :: r => by simp [flatP, fl4, flatP_len r]; omega
theorem flatP_app : ∀ P Q : List PNd, flatP (P ++ Q) = flatP P ++ flatP Q
  | [], Q => rfl
  | p :: r, Q => by simp [flatP, flatP_app r Q]
theorem flatP_snoc (P : List PNd) (p : PNd) : flatP (P ++ [p]) = flatP P ++ fl4 p := by rw [flatP_app]; simp [flatP]
theorem flatP_get : ∀ (P : List PNd) (i j : Nat) (hi : i < P.length) (_ : j < 4), (flatP P)[i * 4 + j]? = (fl4 P[i])[j]?
  | p :: r, 0, j, _, hj => by
    rw [Nat.zero_mul, Nat.zero_add]
    exact List.getElem?_append_left (by simpa [fl4] using hj)
  | p :: r, i + 1, j, hi, hj => by
    have e : (i + 1) * 4 + j = (fl4 p).length + (i * 4 + j) := by simp [fl4]; omega
    rw [e, flatP, List.getElem?_append_right (by omega), Nat.add_sub_cancel_left]
    exact flatP_get r i j (by simpa using hi) hj
theorem flatP_set : ∀ (P : List PNd) (i : Nat) (_ : i < P.length) (x y z : Int),
    (((flatP P).set (i * 4) (.int .i64 x)).set (i * 4 + 1) (.int .i64 y)).set (i * 4 + 2) (.int .i64 z) = flatP (P.set i ⟨⟨x, y, z, (P.getD i default).d.xs⟩, (P.getD i default).nv, (P.getD i default).q⟩)
  | p :: r, 0, _, x, y, z => by simp [flatP, fl4]
  | p :: r, i + 1, hi, x, y, z => by
    have ih := flatP_set r i (by simpa using hi) x y z
    have e0 : (i + 1) * 4 = 4 + i * 4 := by omega
    have el : (fl4 p).length = 4 := rfl
    rw [e0, flatP, Nat.add_assoc, Nat.add_assoc]
    rw [List.set_append_right _ _ (by omega), el, Nat.add_sub_cancel_left, List.set_append_right _ _ (by omega), el, Nat.add_sub_cancel_left, List.set_append_right _ _ (by omega), el, Nat.add_sub_cancel_left, ih]
    simp [flatP]
/-- The numbers of a node in memory from lo on and below hi. -/
def NumR (w : World) (lo hi : Nat) (p : PNd) : Prop := ∃ a c, p.nv = .slice a p.d.xs.length c ∧ (p.d.xs = [] ∨ (a = some ⟨p.q, 0, none⟩ ∧ p.q < hi ∧ w.ownsRow lo 61 1 p.nv p.d.xs.length (p.d.xs.map (Value.float .f32))))
def Apt (p p' : PNd) : Prop := p.d.xs = [] ∨ p'.d.xs = [] ∨ p.q ≠ p'.q
def OwnP (w : World) (lo hi : Nat) (v : Value) (P : List PNd) : Prop :=
  w.ownsRow lo 78 4 v P.length (flatP P) ∧ (∀ g, v.ownBlock = some g → g < hi) ∧ (∀ p ∈ P, NumR w lo hi p) ∧ P.Pairwise Apt ∧ hi ≤ w.heap.size
/-- The slice v holds the nodes L in a call's own memory, all of it from lo on and below hi, the nodes' numbers apart. -/
def OwnSh (w : World) (lo hi : Nat) (v : Value) (L : List Nd) : Prop := ∃ P : List PNd, P.map (·.d) = L ∧ OwnP w lo hi v P
/-- Only blocks from lo on and below hi have turned. -/
structure Within (lo hi : Nat) (w w' : World) : Prop where
  os : w'.os = w.os
  tape : w'.tape = w.tape
  output : w'.output = w.output
  size : w.heap.size ≤ w'.heap.size
  block : ∀ k, k < w.heap.size → k < lo ∨ hi ≤ k → w'.heap[k]? = w.heap[k]?
theorem Within.refl (lo hi : Nat) (w : World) : Within lo hi w w := ⟨rfl, rfl, rfl, Nat.le_refl _, fun _ _ _ => rfl⟩
theorem Within.trans {lo hi : Nat} {a b c : World} (h : Within lo hi a b) (k : Within lo hi b c) : Within lo hi a c :=
  ⟨k.os.trans h.os, k.tape.trans h.tape, k.output.trans h.output, Nat.le_trans h.size k.size, fun i hi hl => (k.block i (Nat.lt_of_lt_of_le hi h.size) hl).trans (h.block i hi hl)⟩
theorem Within.of_drewN {lo hi n : Nat} {w w' : World} (h : Within lo hi (w.drewN n) w') : Within lo hi w w' := ⟨h.os, h.tape, h.output, h.size, h.block⟩
theorem Within.drewN {lo hi : Nat} {w w' : World} (h : Within lo hi w w') (n : Nat) : Within lo hi w (w'.drewN n) := ⟨h.os, h.tape, h.output, h.size, h.block⟩
theorem Within.set {lo hi : Nat} {w w' : World} (h : Within lo hi w w') {a : Addr} (h1 : lo ≤ a.block) (h2 : a.block < hi) (u : Value) : Within lo hi w (w'.setCell a u) :=
  h.trans ⟨rfl, rfl, rfl, by simp [World.setCell], fun k _ hk => Below.heap_setCell _ _ _ _ (by omega)⟩
theorem Within.grown {lo hi : Nat} {w w' w2 : World} {row : Option Nat} (h : Within lo hi w w') (hg : w'.grownBy w2 row) (hr : ∀ k, row = some k → lo ≤ k ∧ k < hi) : Within lo hi w w2 :=
  h.trans ⟨hg.os, hg.tape, hg.output, hg.size, fun k hk hl => hg.block k hk (fun e => by have := hr k e.symm; omega)⟩
theorem Within.below {lo hi : Nat} {w w' : World} (h : Within lo hi w w') {B : Nat} (hB : B ≤ lo) (hs : B ≤ w.heap.size) : Below B w w' :=
  ⟨h.os, h.tape, h.output, h.size, fun k hk => h.block k (by omega) (by omega)⟩
theorem bl_within {w W w1 : World} {lo hi : Nat} (h : Below w.heap.size w W) (hw : Within lo hi W w1) (hB : w.heap.size ≤ lo) : Below w.heap.size w w1 :=
  h.trans (hw.below hB h.size)
/-- A row of a call's own stays as long as its block does. -/
theorem own_at {w w' : World} {B n s : Nat} {e : TypeId} {v : Value} {xs : List Value} (h : w.ownsRow B e s v n xs) (hk : ∀ g, v.ownBlock = some g → w'.heap[g]? = w.heap[g]?) : w'.ownsRow B e s v n xs := by
  obtain ⟨h1, h2 | ⟨g, cap, cur, rfl, hg, hh, r⟩⟩ := h
  · exact ⟨h1, .inl h2⟩
  · exact ⟨h1, .inr ⟨g, cap, cur, rfl, hg, (hk g rfl).trans hh, r⟩⟩
theorem OwnP.kept {w w' : World} {lo hi : Nat} {v : Value} {P : List PNd} (h : OwnP w lo hi v P) (hs : w.heap.size ≤ w'.heap.size) (hk : ∀ k, lo ≤ k → k < hi → w'.heap[k]? = w.heap[k]?) : OwnP w' lo hi v P := by
  obtain ⟨h1, h2, h3, h4, h5⟩ := h
  refine ⟨own_at h1 (fun g hg => hk g (h1.lt g hg).1 (h2 g hg)), h2, fun p hp => ?_, h4, Nat.le_trans h5 hs⟩
  obtain ⟨a, c, e, he | ⟨ha, hq, ho⟩⟩ := h3 p hp
  · exact ⟨a, c, e, .inl he⟩
  · refine ⟨a, c, e, .inr ⟨ha, hq, own_at ho (fun g hg => ?_)⟩⟩
    have hl := (ho.lt g hg).1
    have : g = p.q := by rw [e, ha] at hg; simpa [Value.ownBlock] using hg.symm
    exact hk g hl (by omega)
theorem OwnSh.keep {w w' : World} {lo hi : Nat} {v : Value} {L : List Nd} (h : OwnSh w lo hi v L) (hb : Below w.heap.size w w') : OwnSh w' lo hi v L := by
  obtain ⟨P, e, hP⟩ := h
  exact ⟨P, e, hP.kept hb.size (fun k _ hk => hb.block k (Nat.lt_of_lt_of_le hk hP.2.2.2.2))⟩
theorem OwnSh.drewN {w : World} {lo hi : Nat} {v : Value} {L : List Nd} (h : OwnSh w lo hi v L) (n : Nat) : OwnSh (w.drewN n) lo hi v L := h
/-- Marks in other memory turn nothing. -/
theorem OwnSh.apart {w w' : World} {lo hi lo' hi' : Nat} {v : Value} {L : List Nd} (h : OwnSh w lo hi v L) (hw : Within lo' hi' w w') (ha : hi ≤ lo' ∨ hi' ≤ lo) : OwnSh w' lo hi v L := by
  obtain ⟨P, e, hP⟩ := h
  exact ⟨P, e, hP.kept hw.size (fun k h1 h2 => hw.block k (Nat.lt_of_lt_of_le h2 hP.2.2.2.2) (by omega))⟩
theorem OwnSh.mono {w : World} {lo hi lo' hi' : Nat} {v : Value} {L : List Nd} (h : OwnSh w lo hi v L) (h1 : lo' ≤ lo) (h2 : hi ≤ hi') (h3 : hi' ≤ w.heap.size) : OwnSh w lo' hi' v L := by
  obtain ⟨P, e, q1, q2, q3, q4, q5⟩ := h
  refine ⟨P, e, own_mono q1 h1, fun g hg => Nat.lt_of_lt_of_le (q2 g hg) h2, fun p hp => ?_, q4, h3⟩
  obtain ⟨a, c, e, he | ⟨ha, hq, ho⟩⟩ := q3 p hp
  · exact ⟨a, c, e, .inl he⟩
  · exact ⟨a, c, e, .inr ⟨ha, Nat.lt_of_lt_of_le hq h2, own_mono ho h1⟩⟩
theorem OwnSh.nil (w : World) (lo hi : Nat) (h : hi ≤ w.heap.size) : OwnSh w lo hi (.slice none 0 0) [] :=
  ⟨[], rfl, World.ownsRow_nil _ _ _ _, fun g hg => by simp [Value.ownBlock] at hg, fun p hp => by simp at hp, .nil, h⟩
theorem NumR.fin {w : World} {lo hi : Nat} {p : PNd} (h : NumR w lo hi p) : FIn w p.nv p.d.xs := by
  obtain ⟨a, c, e, he | ⟨ha, hq, ho⟩⟩ := h
  · exact ⟨a, c, e, .inl he⟩
  · exact FIn_of_own rfl ho
theorem OwnP.nodes {w : World} {lo hi : Nat} {v : Value} {P : List PNd} (h : OwnP w lo hi v P) : NodesIn w v (P.map (·.d)) := by
  obtain ⟨h1, h2, h3, h4, h5⟩ := h
  have hnum := fun p hp => (h3 p hp).fin
  rcases h1.2 with ⟨rfl, h0⟩ | ⟨g, cap, cur, rfl, hb, hg, rest⟩
  · have : P = [] := List.length_eq_zero_iff.1 h0
    subst this
    exact ⟨none, 0, rfl, .inl rfl⟩
  · refine ⟨_, cap, by rw [List.length_map], .inr ⟨g, 0, rfl, fun i hi => ?_⟩⟩
    rw [List.length_map] at hi
    rw [Nat.zero_add]
    have hc : ∀ j, j < 4 → w.cell? ⟨g, i * 4 + j, none⟩ = (fl4 P[i])[j]? := fun j hj => (h1.cellAt (i * 4 + j) (by omega)).trans (flatP_get P i j hi hj)
    have e : (P.map (·.d)).getD i default = P[i].d := by simp [hi]
    rw [e]
    exact ⟨hc 0 (by omega), hc 1 (by omega), hc 2 (by omega), P[i].nv, hc 3 (by omega), hnum _ (List.getElem_mem hi)⟩
theorem OwnSh.nodes {w : World} {lo hi : Nat} {v : Value} {L : List Nd} (h : OwnSh w lo hi v L) : NodesIn w v L := by
  obtain ⟨P, rfl, hP⟩ := h
  exact hP.nodes
theorem OwnP.len {w : World} {lo hi : Nat} {v : Value} {P : List PNd} (h : OwnP w lo hi v P) : ∃ a c, v = .slice a P.length c := by
  rcases h.1.2 with ⟨rfl, h0⟩ | ⟨g, cap, cur, rfl, _⟩
  · exact ⟨none, 0, by rw [h0]⟩
  · exact ⟨_, cap, rfl⟩
/-- A row of nodes and a row of numbers lie in different blocks. -/
theorem own_types {w : World} {B B' n n' : Nat} {u v : Value} {xs ys : List Value} (h : w.ownsRow B 78 4 v n xs) (h' : w.ownsRow B' 61 1 u n' ys) : ∀ g, v.ownBlock = some g → u.ownBlock ≠ some g := by
  intro g hg hu
  rcases h.2 with ⟨rfl, _⟩ | ⟨g1, cap, cur, rfl, _, hh, _⟩
  · simp [Value.ownBlock] at hg
  rcases h'.2 with ⟨rfl, _⟩ | ⟨g2, cap', cur', rfl, _, hh', _⟩
  · simp [Value.ownBlock] at hu
  simp only [Value.ownBlock, Option.some.injEq] at hg hu
  subst hg
  subst hu
  rw [hh] at hh'
  simp at hh'
/-- Nodes gathered one by one: the world's own end is the bound. -/
theorem OwnP.push {w w1 w2 : World} {lo : Nat} {v v' : Value} {P : List PNd} {p : PNd} (h : OwnP w lo w.heap.size v P) (hb : Below w.heap.size w w1) (hn : NumR w1 lo w1.heap.size p) (hq : p.d.xs = [] ∨ w.heap.size ≤ p.q)
    (ho : w2.ownsRow lo 78 4 v' (P.length + 1) (flatP P ++ fl4 p)) (hg : w1.grownBy w2 v.ownBlock) : OwnP w2 lo w2.heap.size v' (P ++ [p]) := by
  obtain ⟨h1, h2, h3, h4, h5⟩ := h
  have hv : w1.ownsRow lo 78 4 v P.length (flatP P) := own_keep h1 hb
  have keepN : ∀ p' : PNd, NumR w1 lo w1.heap.size p' → NumR w2 lo w2.heap.size p' := by
    rintro p' ⟨a, c, e, he | ⟨ha, hq, hr⟩⟩
    · exact ⟨a, c, e, .inl he⟩
    · refine ⟨a, c, e, .inr ⟨ha, Nat.lt_of_lt_of_le hq hg.size, ?_⟩⟩
      refine hr.kept hg ?_
      cases hv' : v.ownBlock with
      | none => rw [e, ha]; exact .inr (by simp [Value.ownBlock])
      | some g => exact .inr (own_types hv hr g hv')
  have keep1 : ∀ p' : PNd, NumR w lo w.heap.size p' → NumR w1 lo w1.heap.size p' := by
    rintro p' ⟨a, c, e, he | ⟨ha, hq, hr⟩⟩
    · exact ⟨a, c, e, .inl he⟩
    · exact ⟨a, c, e, .inr ⟨ha, Nat.lt_of_lt_of_le hq hb.size, own_keep hr hb⟩⟩
  refine ⟨by rw [flatP_snoc]; simpa using ho, fun g hg' => (ho.lt g hg').2, fun p' hp' => ?_, ?_, Nat.le_refl _⟩
  · rcases List.mem_append.1 hp' with hp' | hp'
    · exact keepN _ (keep1 _ (h3 _ hp'))
    · simp at hp'; subst hp'; exact keepN _ hn
  · refine List.pairwise_append.2 ⟨h4, List.pairwise_singleton _ _, fun p1 hp1 p2 hp2 => ?_⟩
    simp at hp2; subst hp2
    obtain ⟨a, c, e, he | ⟨ha, hq1, hr⟩⟩ := h3 p1 hp1
    · exact .inl he
    · rcases hq with hq | hq
      · exact .inr (.inl hq)
      · exact .inr (.inr (by omega))
end Go.Proofs.Ytpbccoobkmahlaa
