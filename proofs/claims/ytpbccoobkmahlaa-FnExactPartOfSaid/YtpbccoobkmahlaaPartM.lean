/- Which nodes lie below a node, and the shape of those that are kept, in plain terms. No conditions. -/
import Derived.Test.YtpbccoobkmahlaaWrapI
import Derived.Test.YtpbccoobkmahlaaJoinG
namespace Go.Proofs.Ytpbccoobkmahlaa
open Go.Fl Go.RowKit

def setF (F : Nat → Bool) (a : Nat) : Nat → Bool := fun j => F j || (j == a)
def oneF (n : Nat) : Nat → Bool := fun j => j == n
/-- A node's first m children set. -/
def stK (F : Nat → Bool) (d : Nd) (m : Nat) : Nat → Bool := (List.range m).foldl (fun G j => setF G (kd d j).toNat) F
theorem stK_zero (F : Nat → Bool) (d : Nd) : stK F d 0 = F := rfl
theorem stK_succ {F : Nat → Bool} {d : Nd} {m A : Nat} (h : kd d m = (A : Nat)) : stK F d (m + 1) = setF (stK F d m) A := by simp [stK, List.range_succ, h]
theorem stK_one {F : Nat → Bool} {d : Nd} {A : Nat} (h : d.a = (A : Nat)) : stK F d 1 = setF F A := by rw [stK_succ (A := A) (by simpa [kd] using h), stK_zero]
theorem stK_two {F : Nat → Bool} {d : Nd} {A B : Nat} (h : d.a = (A : Nat)) (h' : d.b = (B : Nat)) : stK F d 2 = setF (setF F A) B := by rw [stK_succ (A := B) (by simpa [kd] using h'), stK_one h]
def stB (L : List Nd) (F : Nat → Bool) (i : Nat) : Nat → Bool := if F i = true then stK F (at_ L i) (kidsK (at_ L i).k) else F
/-- What is set when the nodes before the i-th are looked at, from the last on. -/
def runB (L : List Nd) : Nat → (Nat → Bool) → (Nat → Bool)
  | 0, F => F
  | i + 1, F => runB L i (stB L F i)
theorem runB_no {L : List Nd} {F : Nat → Bool} {i : Nat} (h : F i = false) : runB L (i + 1) F = runB L i F := by simp [runB, stB, h]
theorem runB_yes {L : List Nd} {F : Nat → Bool} {i K : Nat} {d : Nd} (h : F i = true) (hd : at_ L i = d) (hK : kidsK d.k = K) : runB L (i + 1) F = runB L i (stK F d K) := by simp [runB, stB, h, hd, hK]
theorem runB_down (L : List Nd) (n : Nat) : ∀ m, n + 1 ≤ m → runB L m (oneF n) = runB L (n + 1) (oneF n)
  | 0, h => by omega
  | m + 1, h => by
    by_cases e : m = n
    · rw [e]
    · rw [runB_no (by simp [oneF]; exact e)]
      exact runB_down L n m (by omega)
def rowB (n : Nat) (F : Nat → Bool) : List Value := (List.range n).map fun j => .bool (F j)
theorem rowB_len (n : Nat) (F : Nat → Bool) : (rowB n F).length = n := by simp [rowB]
theorem rowB_at {n j : Nat} (F : Nat → Bool) (h : j < n) : (rowB n F)[j]? = some (.bool (F j)) := by simp [rowB, h]
theorem rowB_set {n a : Nat} (F : Nat → Bool) : (rowB n F).set a (.bool true) = rowB n (setF F a) := by
  refine List.ext_getElem (by simp [rowB]) fun i h1 h2 => ?_
  simp only [rowB, List.getElem_set, List.getElem_map, List.getElem_range, setF]
  by_cases h : a = i
  · subst h; simp
  · rw [if_neg h]
    have h' : ¬ i = a := fun e => h e.symm
    simp [h']
theorem rowB_zero (n : Nat) : (madeCells (Value.bool false).cells (n * 1)).toList = rowB n (fun _ => false) := by
  refine List.ext_getElem (by simp [madeCells, rowB]) fun i h1 h2 => ?_
  simp [madeCells, Value.cells, Nat.mod_one, rowB]
theorem setF_zero (n : Nat) : setF (fun _ => false) n = oneF n := by funext j; simp [setF, oneF]
/-- A row of truths that can be read. -/
def RowF (w : World) (v : Value) (n : Nat) (F : Nat → Bool) : Prop := ∃ g c, v = .slice (some ⟨g, 0, none⟩) n c ∧ ∀ j, j < n → w.cell? ⟨g, j, none⟩ = some (.bool (F j))
theorem RowF.keep {w w' : World} {v : Value} {n : Nat} {F : Nat → Bool} (h : RowF w v n F) (hb : Below w.heap.size w w') : RowF w' v n F := by
  obtain ⟨g, c, e, h⟩ := h
  exact ⟨g, c, e, fun j hj => cellk (h j hj) hb⟩
theorem RowF.of {w : World} {B u n c : Nat} {e : TypeId} {F : Nat → Bool} (h : w.ownsRow B e 1 (.slice (some ⟨u, 0, none⟩) n c) n (rowB n F)) : RowF w (.slice (some ⟨u, 0, none⟩) n c) n F :=
  ⟨u, c, rfl, fun j hj => (h.cellAt j (by omega)).trans (rowB_at F hj)⟩
/-- One store into the row. -/
theorem bumpB {w : World} {B u n cap : Nat} {e : TypeId} {F : Nat → Bool} (h : w.ownsRow B e 1 (.slice (some ⟨u, 0, none⟩) n cap) n (rowB n F)) {k : Nat} (hk : k < n) :
    w.cell? ⟨u, k, none⟩ = some (.bool (F k)) ∧ w.frozen? ⟨u, k, none⟩ = false ∧ (w.setCell ⟨u, k, none⟩ (.bool true)).ownsRow B e 1 (.slice (some ⟨u, 0, none⟩) n cap) n (rowB n (setF F k)) := by
  refine ⟨(h.cellAt k (by omega)).trans (rowB_at F hk), h.frozenAt k, ?_⟩
  have := (h.stored k (.bool true)).1
  rwa [rowB_set F] at this
theorem readB {w : World} {B u n cap : Nat} {e : TypeId} {F : Nat → Bool} (h : w.ownsRow B e 1 (.slice (some ⟨u, 0, none⟩) n cap) n (rowB n F)) {k : Nat} {b : Bool} (hk : k < n) (hb : F k = b) : w.cell? ⟨u, k, none⟩ = some (.bool b) := by
  subst hb; exact (h.cellAt k (by omega)).trans (rowB_at F hk)
theorem info_bool : (Try.prog.info? 4).map (fun i => (i.zero, i.size, i.bytes)) = some (some (.bool false), 1, 1) := by kernel_rfl
/-! The nodes that are kept. -/
def keptN (G : Nat → Nat) (d : Nd) : Nd := ⟨d.k, if kidsK d.k = 0 then d.a else ((G d.a.toNat : Nat) : Int), if kidsK d.k = 2 then ((G d.b.toNat : Nat) : Int) else d.b, d.xs⟩
theorem keptN0 {G : Nat → Nat} {d : Nd} (h : kidsK d.k = 0) : keptN G d = ⟨d.k, d.a, d.b, d.xs⟩ := by simp [keptN, h]
theorem keptN1 {G : Nat → Nat} {A x : Nat} {d : Nd} (h : kidsK d.k = 1) (ha : d.a = (A : Nat)) (hx : G A = x) : keptN G d = ⟨d.k, ((x : Nat) : Int), d.b, d.xs⟩ := by simp [keptN, h, ha, hx]
theorem keptN2 {G : Nat → Nat} {A B x y : Nat} {d : Nd} (h : kidsK d.k = 2) (ha : d.a = (A : Nat)) (hb : d.b = (B : Nat)) (hx : G A = x) (hy : G B = y) : keptN G d = ⟨d.k, ((x : Nat) : Int), ((y : Nat) : Int), d.xs⟩ := by simp [keptN, h, ha, hb, hx, hy]
def upd (G : Nat → Nat) (k x : Nat) : Nat → Nat := fun j => if j = k then x else G j
theorem upd_far {G : Nat → Nat} {k x A y : Nat} (h : A < k) (hy : G A = y) : upd G k x A = y := by subst hy; simp [upd]; omega
/-- The places and the nodes when the first k are looked at. -/
def kp (L : List Nd) (F : Nat → Bool) : Nat → (Nat → Nat) × List Nd
  | 0 => (fun _ => 0, [])
  | k + 1 => if F k = true then (upd (kp L F k).1 k (kp L F k).2.length, (kp L F k).2 ++ [keptN (kp L F k).1 (at_ L k)]) else kp L F k
theorem kp_no {L : List Nd} {F : Nat → Bool} {k : Nat} (h : F k = false) : kp L F (k + 1) = kp L F k := by simp [kp, h]
theorem kp_yes {L : List Nd} {F : Nat → Bool} {k : Nat} {d e : Nd} (h : F k = true) (hd : at_ L k = d) (he : keptN (kp L F k).1 d = e) : (kp L F (k + 1)).1 = upd (kp L F k).1 k (kp L F k).2.length ∧ (kp L F (k + 1)).2 = (kp L F k).2 ++ [e] := by
  subst he hd; simp [kp, h]
theorem kp_len (L : List Nd) (F : Nat → Bool) : ∀ k, (kp L F k).2.length ≤ k
  | 0 => by simp [kp]
  | k + 1 => by
    have := kp_len L F k
    unfold kp; split
    · simp; omega
    · omega
theorem kp_place (L : List Nd) (F : Nat → Bool) : ∀ k j, (kp L F k).1 j ≤ k
  | 0, j => by simp [kp]
  | k + 1, j => by
    have := kp_place L F k j
    have h2 := kp_len L F k
    unfold kp; split
    · simp only [upd]; split <;> omega
    · omega
theorem kp_nums {L : List Nd} (h : valid L = true) (F : Nat → Bool) : ∀ k, k ≤ L.length → ∀ d ∈ (kp L F k).2, d.xs.length ≤ 4
  | 0, _, d, hd => by simp [kp] at hd
  | k + 1, hk, d, hd => by
    have ih := kp_nums h F k (by omega)
    cases hF : F k
    · rw [kp_no hF] at hd; exact ih d hd
    · rw [(kp_yes hF rfl rfl).2, List.mem_append] at hd
      rcases hd with hd | hd
      · exact ih d hd
      · obtain rfl := List.mem_singleton.1 hd
        show (at_ L k).xs.length ≤ 4
        exact nums_few (valid_ok h (show k < L.length by omega))
theorem sumX_few : ∀ (M : List Nd) (_ : ∀ d ∈ M, d.xs.length ≤ 4), sumX M ≤ 4 * M.length
  | [], _ => by simp [sumX]
  | d :: r, h => by
    have := sumX_few r (fun e he => h e (List.mem_cons_of_mem _ he))
    have h2 := h d List.mem_cons_self
    unfold sumX at this ⊢
    simp only [List.map_cons, List.sum_cons, List.length_cons]
    omega
def rowI (n : Nat) (G : Nat → Nat) : List Value := (List.range n).map fun j => .int .i64 ((G j : Nat) : Int)
theorem rowI_len (n : Nat) (G : Nat → Nat) : (rowI n G).length = n := by simp [rowI]
theorem rowI_zero (n : Nat) : (madeCells (Value.int .i64 0).cells (n * 1)).toList = rowI n (fun _ => 0) := by
  refine List.ext_getElem (by simp [madeCells, rowI]) fun i h1 h2 => ?_
  simp [madeCells, Value.cells, Nat.mod_one, rowI]
theorem rowI_at {n j x : Nat} {G : Nat → Nat} (h : j < n) (hx : G j = x) : (rowI n G)[j]? = some (.int .i64 ((x : Nat) : Int)) := by subst hx; simp [rowI, h]
theorem rowI_set {n k x : Nat} (G : Nat → Nat) : (rowI n G).set k (.int .i64 ((x : Nat) : Int)) = rowI n (upd G k x) := by
  refine List.ext_getElem (by simp [rowI]) fun i h1 h2 => ?_
  simp only [rowI, List.getElem_set, List.getElem_map, List.getElem_range, upd]
  by_cases h : k = i
  · subst h; simp
  · rw [if_neg h]
    have h' : ¬ i = k := fun e => h e.symm
    simp [h']
theorem readI {w : World} {B u n cap : Nat} {e : TypeId} {G : Nat → Nat} (h : w.ownsRow B e 1 (.slice (some ⟨u, 0, none⟩) n cap) n (rowI n G)) {k x : Nat} (hk : k < n) (hx : G k = x) : w.cell? ⟨u, k, none⟩ = some (.int .i64 ((x : Nat) : Int)) :=
  (h.cellAt k (by omega)).trans (rowI_at hk hx)
theorem bumpI {w : World} {B u n cap : Nat} {e : TypeId} {G : Nat → Nat} (h : w.ownsRow B e 1 (.slice (some ⟨u, 0, none⟩) n cap) n (rowI n G)) {k : Nat} (hk : k < n) (x : Nat) :
    w.cell? ⟨u, k, none⟩ = some (.int .i64 ((G k : Nat) : Int)) ∧ w.frozen? ⟨u, k, none⟩ = false ∧ (w.setCell ⟨u, k, none⟩ (.int .i64 ((x : Nat) : Int))).ownsRow B e 1 (.slice (some ⟨u, 0, none⟩) n cap) n (rowI n (upd G k x)) := by
  refine ⟨(h.cellAt k (by omega)).trans (rowI_at hk rfl), h.frozenAt k, ?_⟩
  have := (h.stored k (.int .i64 ((x : Nat) : Int))).1
  rwa [rowI_set G] at this
/-- The part of a shape below a node, and whether there is one. -/
def partF (L : List Nd) (n : Nat) : Nat → Bool := runB L L.length (oneF n)
def partL (L : List Nd) (x : Int) : List Nd := if valid L = true ∧ inB x 0 ((L.length : Int) - 1) = true then (kp L (partF L x.toNat) L.length).2 else []
def partB (L : List Nd) (x : Int) : Bool := valid L && inB x 0 ((L.length : Int) - 1)
theorem part_no {L : List Nd} {x : Int} (h : ¬ (valid L = true ∧ inB x 0 ((L.length : Int) - 1) = true)) : partL L x = [] ∧ partB L x = false := by
  unfold partL partB; rw [if_neg h]; exact ⟨rfl, by rw [Bool.eq_false_iff]; simpa using h⟩
theorem part_yes {L : List Nd} {n : Nat} (h : valid L = true) (hn : inB (n : Nat) 0 ((L.length : Int) - 1) = true) : partL L (n : Nat) = (kp L (partF L n) L.length).2 ∧ partB L (n : Nat) = true := by
  unfold partL partB; rw [if_pos ⟨h, hn⟩, h, hn]; exact ⟨rfl, rfl⟩
theorem part_small (L : List Nd) (x : Int) : (partL L x).length ≤ 16 ∧ sumX (partL L x) ≤ 64 := by
  unfold partL
  split
  · rename_i h
    have h1 := kp_len L (partF L x.toNat) L.length
    have h2 := (valid_parts h.1).2.1
    have h3 := sumX_few _ (kp_nums h.1 (partF L x.toNat) L.length (Nat.le_refl _))
    omega
  · simp [sumX]
end Go.Proofs.Ytpbccoobkmahlaa
