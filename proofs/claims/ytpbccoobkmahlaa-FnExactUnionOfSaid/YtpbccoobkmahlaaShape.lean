/- Shapes: a slice of nodes, each with a slice of numbers. No conditions. -/
import Derived.Test.YtpbccoobkmahlaaOpen
import Derived.Deep.Slices
import Derived.Deep.Fields
import Derived.ChangeSame
namespace Go.Proofs.Ytpbccoobkmahlaa
open Go.Fl Go.RowKit

structure Nd where
  k : Int
  a : Int
  b : Int
  xs : List Nat
instance : Inhabited Nd := ⟨⟨0, 0, 0, []⟩⟩
def NdAt (w : World) (g o : Nat) (d : Nd) : Prop :=
  w.cell? ⟨g, o, none⟩ = some (.int .i64 d.k) ∧ w.cell? ⟨g, o + 1, none⟩ = some (.int .i64 d.a) ∧ w.cell? ⟨g, o + 2, none⟩ = some (.int .i64 d.b) ∧ ∃ nv, w.cell? ⟨g, o + 3, none⟩ = some nv ∧ FIn w nv d.xs
theorem NdAt.keep {w w' : World} {g o : Nat} {d : Nd} (h : NdAt w g o d) (hb : Below w.heap.size w w') : NdAt w' g o d := by
  obtain ⟨h0, h1, h2, nv, h3, hf⟩ := h
  have hg : g < w.heap.size := World.block_lt_of_cell? w _ h0
  exact ⟨(hb.cell (p := ⟨g, o, none⟩) hg).trans h0, (hb.cell (p := ⟨g, o + 1, none⟩) hg).trans h1, (hb.cell (p := ⟨g, o + 2, none⟩) hg).trans h2, nv, (hb.cell (p := ⟨g, o + 3, none⟩) hg).trans h3, hf.keep hb⟩
/-- The slice value v holds the nodes L in the world w. -/
def NodesIn (w : World) (v : Value) (L : List Nd) : Prop := ∃ a cap, v = .slice a L.length cap ∧ (L = [] ∨ ∃ g o, a = some ⟨g, o, none⟩ ∧ ∀ i, i < L.length → NdAt w g (o + i * 4) (L.getD i default))
def Small (L : List Nd) : Prop := L.length ≤ maxLen ∧ ∀ d ∈ L, d.xs.length ≤ maxLen ∧ ∀ x ∈ d.xs, x < 4294967296
theorem NodesIn.keep {w w' : World} {v : Value} {L : List Nd} (h : NodesIn w v L) (hb : Below w.heap.size w w') : NodesIn w' v L := by
  obtain ⟨a, cap, rfl, he | ⟨g, o, rfl, hc⟩⟩ := h
  · exact ⟨a, cap, rfl, .inl he⟩
  · exact ⟨_, cap, rfl, .inr ⟨g, o, rfl, fun i hi => (hc i hi).keep hb⟩⟩
theorem NodesIn.at_ {w : World} {a : Option Addr} {n cap : Nat} {L : List Nd} (h : NodesIn w (.slice a n cap) L) {i : Nat} (hi : i < L.length) : ∃ g o, a = some ⟨g, o, none⟩ ∧ g < w.heap.size ∧ NdAt w g (o + i * 4) (L.getD i default) := by
  obtain ⟨a', cap', e, he⟩ := h
  injection e with e1 e2 e3
  subst e1
  rcases he with rfl | ⟨g, o, rfl, hc⟩
  · simp at hi
  · exact ⟨g, o, rfl, World.block_lt_of_cell? w _ (hc i hi).1, hc i hi⟩

section
open Go.WideShapes Go.ChangeShapes Go.Deep
variable {H : Type} {enc : TypeId × Value → H} {P : Program} {w : World} {base : Nat} {spare : Nat → Bool} {held : Bool}
/-- A slice of numbers that lies in one cell. -/
theorem f32s_of_cell {t e : TypeId} {v : Value} {n : Nat} {y : DataW H × List MemPlace} (ht : P.underlying t = some (.slice e)) (he : P.underlying e = some (.float .f32)) (hc : P.cellsOf e = 1)
    (h : DataW.trod enc P w base spare held n t [v] = some y) : ∃ xs, FIn w v xs ∧ xs.length ≤ maxLen ∧ ∀ x ∈ xs, x < 4294967296 := by
  obtain ⟨d, p⟩ := y
  rcases open_slice1 ht hc h with ⟨hcs, _⟩ | ⟨a, l, c, m, n, V, D, Pl, hcs, _, hl, hmx, hm, _, hx⟩
  · simp at hcs
    subst hcs
    exact ⟨[], ⟨none, 0, rfl, .inl rfl⟩, Nat.zero_le _, by simp⟩
  · simp at hcs
    subst hcs
    have hle : l ≤ m := by rw [hm]; split <;> omega
    have each : ∀ i, i < l → ∃ b, w.cell? (a.add i) = some (.float .f32 b) ∧ b < 4294967296 := by
      intro i hi
      obtain ⟨h1, h2⟩ := hx i (by omega)
      obtain ⟨b, hb, _, hlt⟩ := trod_float he h2
      simp only [List.cons.injEq, and_true] at hb
      exact ⟨b, by rw [h1, hb], (lt32 b).1 hlt⟩
    obtain ⟨xs, hxl, hxs⟩ := list_of 0 l each
    subst hxl
    refine ⟨xs, ⟨some a, c, rfl, ?_⟩, by omega, fun x hx => ?_⟩
    rotate_left
    · obtain ⟨i, hi, rfl⟩ := List.mem_iff_getElem.1 hx
      have := (hxs i hi).2
      simpa [List.getD, hi] using this
    rcases Nat.eq_zero_or_pos xs.length with h0 | h0
    · exact .inl (List.length_eq_zero_iff.1 h0)
    · have hs := cell_spot (by have := (hxs 0 h0).1; rwa [add_zero'] at this)
      obtain ⟨b, o, s⟩ := a
      simp only at hs
      subst hs
      exact .inr ⟨b, o, rfl, fun i hi => by rw [← add_eq]; exact (hxs i hi).1⟩
theorem open_slice_fields {t e : TypeId} {fs : Array Field} {fuel : Nat} {cs : List Value} {x : DataW H × List MemPlace} (ht : P.underlying t = some (.slice e)) (he : P.underlying e = some (.struct fs))
    (hone : oneCellFields P fs = true) (hC : P.cellsOf e = fs.size) (h : DataW.trod enc P w base spare held fuel t cs = some x) :
    (cs = [.slice none 0 0] ∧ x = (.nil, [])) ∨
    ∃ (a : Addr) (len cap m : Nat), cs = [.slice (some a) len cap] ∧ len ≤ m ∧ len ≤ maxLen ∧
      ∀ i, i < m → ∃ (n : Nat), ∀ (j : Nat) (f : Field), fs[j]? = some f → ∃ (v : Value) (y : DataW H × List MemPlace), w.cell? (a.add (i * fs.size + j)) = some v ∧ DataW.trod enc P w base spare held n f.type [v] = some y := by
  rcases open_slice ht h with h0 | ⟨a, len, cap, m, n, D, Pl, hcs, hb, hl, hm, hmm, hx, hi⟩
  · exact .inl h0
  · refine .inr ⟨a, len, cap, m, hcs, by rw [hmm]; split <;> omega, by omega, fun i him => ?_⟩
    obtain ⟨cs', hc, ht'⟩ := hi i him
    rw [hC] at hc
    obtain ⟨ys, n', hn', hy, hlen, hyl, hf⟩ := DataW.trod_struct he ht'
    obtain ⟨_, hcl, hat⟩ := World.cells?_some hc
    refine ⟨n', fun j f hj => ?_⟩
    obtain ⟨ho, hk⟩ := hone_of hone j f hj
    have hjl : j < fs.size := (Array.getElem?_eq_some_iff.1 hj).1
    have hcell := hat j hjl
    have hv : cs'[j]? = some (cs'[j]'(by omega)) := List.getElem?_eq_getElem (by omega)
    have h1 := hf j f hj
    rw [ho, hk] at h1
    have hone' : (cs'.drop j).take 1 = [cs'[j]'(by omega)] := by
      rw [List.drop_eq_getElem_cons (by omega)]
      rfl
    rw [hone'] at h1
    have hys : ys[j]? = some (ys[j]'(by omega)) := List.getElem?_eq_getElem (by omega)
    refine ⟨_, _, ?_, h1.trans hys⟩
    rw [← Go.Deep.add_add, hcell, hv]
theorem nodes_of_cell {t e nt : TypeId} {f0 f1 f2 f3 : Field} {v : Value} {n : Nat} {y : DataW H × List MemPlace} (ht : P.underlying t = some (.slice e)) (he : P.underlying e = some (.struct #[f0, f1, f2, f3]))
    (hone : oneCellFields P #[f0, f1, f2, f3] = true) (hC : P.cellsOf e = 4) (h0 : P.underlying f0.type = some (.int .i64)) (h1 : P.underlying f1.type = some (.int .i64)) (h2 : P.underlying f2.type = some (.int .i64))
    (h3 : P.underlying f3.type = some (.slice nt)) (hf : P.underlying nt = some (.float .f32)) (hcf : P.cellsOf nt = 1)
    (h : DataW.trod enc P w base spare held n t [v] = some y) : ∃ L, NodesIn w v L ∧ Small L := by
  rcases open_slice_fields ht he hone hC h with ⟨hcs, _⟩ | ⟨a, len, cap, m, hcs, hle, hmx, hx⟩
  · simp at hcs
    subst hcs
    exact ⟨[], ⟨none, 0, rfl, .inl rfl⟩, Nat.zero_le _, by simp⟩
  · simp at hcs
    subst hcs
    have each : ∀ i, i < len → ∃ d : Nd, w.cell? (a.add (i * 4)) = some (.int .i64 d.k) ∧ w.cell? (a.add (i * 4 + 1)) = some (.int .i64 d.a) ∧ w.cell? (a.add (i * 4 + 2)) = some (.int .i64 d.b) ∧ (∃ nv, w.cell? (a.add (i * 4 + 3)) = some nv ∧ FIn w nv d.xs) ∧ (d.xs.length ≤ maxLen ∧ ∀ x ∈ d.xs, x < 4294967296) := by
      intro i hi
      obtain ⟨n, hj⟩ := hx i (by omega)
      obtain ⟨v0, y0, c0, t0⟩ := hj 0 f0 rfl
      obtain ⟨v1, y1, c1, t1⟩ := hj 1 f1 rfl
      obtain ⟨v2, y2, c2, t2⟩ := hj 2 f2 rfl
      obtain ⟨v3, y3, c3, t3⟩ := hj 3 f3 rfl
      obtain ⟨k, e0, _⟩ := DataW.trod_int h0 t0
      obtain ⟨k1, e1, _⟩ := DataW.trod_int h1 t1
      obtain ⟨k2, e2, _⟩ := DataW.trod_int h2 t2
      simp only [List.cons.injEq, and_true] at e0 e1 e2
      subst e0 e1 e2
      obtain ⟨xs, hxs, hxl⟩ := f32s_of_cell h3 hf hcf t3
      exact ⟨⟨k, k1, k2, xs⟩, c0, c1, c2, ⟨v3, c3, hxs⟩, hxl⟩
    obtain ⟨L, hl, hL⟩ := list_of (default : Nd) len each
    subst hl
    refine ⟨L, ⟨some a, cap, rfl, ?_⟩, hmx, fun d hd => ?_⟩
    rotate_left
    · obtain ⟨i, hi, rfl⟩ := List.mem_iff_getElem.1 hd
      have := (hL i hi).2.2.2.2
      simpa [List.getD, hi] using this
    rcases Nat.eq_zero_or_pos L.length with h0' | h0'
    · exact .inl (List.length_eq_zero_iff.1 h0')
    · have hs := cell_spot (hL 0 h0').1
      rw [Nat.zero_mul, add_zero'] at hs
      obtain ⟨b, o, s⟩ := a
      simp only at hs
      subst hs
      refine .inr ⟨b, o, rfl, fun i hi => ?_⟩
      obtain ⟨q0, q1, q2, ⟨nv, q3, qf⟩, _⟩ := hL i hi
      rw [add_eq] at q0 q1 q2 q3
      exact ⟨q0, q1, q2, nv, q3, qf⟩
theorem open_shape {r : Reach} {b0 : Nat} {ts t e nt : TypeId} {g f0 f1 f2 f3 : Field} {v : Value} {d : DataW H} {p : List MemPlace} (hs : P.underlying ts = some (.struct #[g])) (hones : oneCellFields P #[g] = true) (hCs : P.cellsOf ts = 1) (hgt : g.type = t)
    (ht : P.underlying t = some (.slice e)) (he : P.underlying e = some (.struct #[f0, f1, f2, f3]))
    (hone : oneCellFields P #[f0, f1, f2, f3] = true) (hC : P.cellsOf e = 4) (h0 : P.underlying f0.type = some (.int .i64)) (h1 : P.underlying f1.type = some (.int .i64)) (h2 : P.underlying f2.type = some (.int .i64))
    (h3 : P.underlying f3.type = some (.slice nt)) (hf : P.underlying nt = some (.float .f32)) (hcf : P.cellsOf nt = 1)
    (hv : Value.okWide P w r b0 ts v) (h : DataW.Trod enc P w base spare held ts v d p) : ∃ sv L, v = .agg #[sv] ∧ NodesIn w sv L ∧ Small L := by
  obtain ⟨cs, rfl, hsz⟩ := okWide_struct hs hv
  obtain ⟨l⟩ := cs
  have hl1 : l.length = 1 := by have := hsz.trans hCs; simpa using this
  match l, hl1 with
  | [c0], _ =>
    obtain ⟨fuel, hf'⟩ := h
    obtain ⟨xs, n, _, hx, _, hlen, hg⟩ := DataW.trod_struct hs hf'
    obtain ⟨o0, k0⟩ := hone_of hones 0 g rfl
    match xs, hlen with
    | [y0], _ =>
      have ht0 : DataW.trod enc P w base spare held n t [c0] = some y0 := by
        have := hg 0 g rfl
        rw [o0, k0, hgt] at this
        simpa [Value.cells] using this
      obtain ⟨L, hL, hS⟩ := nodes_of_cell ht he hone hC h0 h1 h2 h3 hf hcf ht0
      exact ⟨c0, L, rfl, hL, hS⟩
end
end Go.Proofs.Ytpbccoobkmahlaa
