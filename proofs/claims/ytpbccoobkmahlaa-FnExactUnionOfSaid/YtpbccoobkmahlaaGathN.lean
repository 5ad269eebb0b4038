/- Nodes gathered whose numbers may lie in an argument's memory. No conditions. -/
import Derived.Test.YtpbccoobkmahlaaWrapG
namespace Go.Proofs.Ytpbccoobkmahlaa
open Go.Fl Go.RowKit

/-- A value of numbers in a block of numbers. -/
def NumV (w : World) (nv : Value) (xs : List Nat) : Prop := ∃ p : PNd, p.d.xs = xs ∧ p.nv = nv ∧ NumR w 0 w.heap.size p
theorem NumR.keep {w w' : World} {lo : Nat} {p : PNd} (h : NumR w lo w.heap.size p) (hb : Below w.heap.size w w') : NumR w' lo w'.heap.size p := by
  obtain ⟨a, c, e, he | ⟨ha, hq, ho⟩⟩ := h
  · exact ⟨a, c, e, .inl he⟩
  · exact ⟨a, c, e, .inr ⟨ha, Nat.lt_of_lt_of_le hq hb.size, own_keep ho hb⟩⟩
theorem NumR.grow {w : World} {lo lo' hi hi' : Nat} {p : PNd} (h : NumR w lo hi p) (hl : lo' ≤ lo) (hh : hi ≤ hi') : NumR w lo' hi' p := by
  obtain ⟨a, c, e, he | ⟨ha, hq, ho⟩⟩ := h
  · exact ⟨a, c, e, .inl he⟩
  · exact ⟨a, c, e, .inr ⟨ha, Nat.lt_of_lt_of_le hq hh, own_mono ho hl⟩⟩
theorem NumV.keep {w w' : World} {nv : Value} {xs : List Nat} (h : NumV w nv xs) (hb : Below w.heap.size w w') : NumV w' nv xs := by
  obtain ⟨p, e1, e2, h⟩ := h
  exact ⟨p, e1, e2, h.keep hb⟩
theorem NumV.of {w0 w : World} {nv : Value} {xs : List Nat} (h : NewNum w0 w nv xs) : NumV w nv xs := by
  obtain ⟨p, e1, e2, e3, _⟩ := NewNum.num (d := ⟨0, 0, 0, xs⟩) h (Nat.zero_le _)
  exact ⟨p, by rw [e1], e2, e3⟩
theorem NumV.fin {w : World} {nv : Value} {xs : List Nat} (h : NumV w nv xs) : FIn w nv xs := by
  obtain ⟨p, rfl, rfl, h⟩ := h
  exact h.fin
theorem NumV.nil (w : World) : NumV w (.slice none 0 0) [] := ⟨⟨⟨0, 0, 0, []⟩, .slice none 0 0, 0⟩, rfl, rfl, none, 0, rfl, .inl rfl⟩
def GathN (w : World) (lo : Nat) (v : Value) (M : List Nd) : Prop := ∃ P : List PNd, P.map (·.d) = M ∧ w.ownsRow lo 78 4 v P.length (flatP P) ∧ ∀ p ∈ P, NumR w 0 w.heap.size p
theorem GathN.of {w : World} {lo : Nat} {v : Value} {M : List Nd} (h : Gath w lo v M) : GathN w lo v M := by
  obtain ⟨P, e, h1, h2, h3, h4, h5⟩ := h
  exact ⟨P, e, h1, fun p hp => (h3 p hp).grow (Nat.zero_le _) (Nat.le_refl _)⟩
theorem GathN.form {w : World} {lo : Nat} {v : Value} {M : List Nd} (h : GathN w lo v M) : ∃ a c, v = .slice a M.length c := by
  obtain ⟨P, rfl, h1, _⟩ := h
  rcases h1.2 with ⟨rfl, h0⟩ | ⟨g, cap, cur, rfl, _⟩
  · exact ⟨none, 0, by rw [List.length_map, h0]⟩
  · exact ⟨_, cap, by rw [List.length_map]⟩
theorem GathN.block {w : World} {lo : Nat} {v : Value} {M : List Nd} (h : GathN w lo v M) : ∀ g, v.ownBlock = some g → lo ≤ g ∧ g < w.heap.size := by
  obtain ⟨P, _, h1, _⟩ := h
  exact h1.lt
theorem GathN.nodes {w : World} {lo : Nat} {v : Value} {M : List Nd} (h : GathN w lo v M) : NodesIn w v M := by
  obtain ⟨P, rfl, h1, h3⟩ := h
  have hnum := fun p hp => (h3 p hp).fin
  rcases h1.2 with ⟨rfl, h0⟩ | ⟨g, cap, cur, rfl, hb, hg, rest⟩
  · have : P = [] := List.length_eq_zero_iff.1 h0
    subst this
    exact ⟨none, 0, rfl, .inl rfl⟩
  · refine ⟨_, cap, by rw [List.length_map], .inr ⟨g, 0, rfl, fun i hi => ?_⟩⟩
    rw [List.length_map] at hi
    rw [Nat.zero_add]
    have hc : ∀ j, j < 4 → w.cell? ⟨g, i * 4 + j, none⟩ = (fl4 P[i])[j]? := fun j hj => (h1.cellAt (i * 4 + j) (by omega)).trans (flatP_get P i j hi hj)
    have e : (P.map (·.d)).getD i default = P[i].d := by simp [hi]
    rw [e]
    exact ⟨hc 0 (by omega), hc 1 (by omega), hc 2 (by omega), P[i].nv, hc 3 (by omega), hnum _ (List.getElem_mem hi)⟩
/-- A block that holds one thing of another kind: what is stored there turns no row of nodes or numbers. -/
theorem row_set1 {w : World} {B n s g : Nat} {e : TypeId} {v x : Value} {xs : List Value} (h : w.ownsRow B e s v n xs) (hB : Bl1 w g x) (he : e ≠ 26) (y : Value) : (w.setCell ⟨g, 0, none⟩ y).ownsRow B e s v n xs := by
  refine own_at h (fun k hk => Below.heap_setCell _ _ _ _ ?_)
  rintro rfl
  rcases h.2 with ⟨rfl, _⟩ | ⟨g1, cap, cur, rfl, _, hh, _⟩
  · simp [Value.ownBlock] at hk
  · simp only [Value.ownBlock, Option.some.injEq] at hk
    subst hk
    rw [show w.heap[g1]? = _ from hB] at hh
    simp at hh
    exact he hh.2.symm
theorem NumR.set1 {w : World} {lo hi g : Nat} {p : PNd} {x : Value} (h : NumR w lo hi p) (hB : Bl1 w g x) (y : Value) : NumR (w.setCell ⟨g, 0, none⟩ y) lo hi p := by
  obtain ⟨a, c, e, he | ⟨ha, hq, ho⟩⟩ := h
  · exact ⟨a, c, e, .inl he⟩
  · exact ⟨a, c, e, .inr ⟨ha, hq, row_set1 ho hB (by decide) y⟩⟩
theorem GathN.set1 {w : World} {lo g : Nat} {v x : Value} {M : List Nd} (h : GathN w lo v M) (hB : Bl1 w g x) (y : Value) : GathN (w.setCell ⟨g, 0, none⟩ y) lo v M := by
  obtain ⟨P, e, h1, h3⟩ := h
  exact ⟨P, e, row_set1 h1 hB (by decide) y, fun p hp => by simpa [World.setCell] using (h3 p hp).set1 hB y⟩
theorem NumV.set1 {w : World} {g : Nat} {v x : Value} {xs : List Nat} (h : NumV w v xs) (hB : Bl1 w g x) (y : Value) : NumV (w.setCell ⟨g, 0, none⟩ y) v xs := by
  obtain ⟨p, e1, e2, h⟩ := h
  exact ⟨p, e1, e2, by simpa [World.setCell] using h.set1 hB y⟩
theorem GathN.keep {w w' : World} {lo : Nat} {v : Value} {M : List Nd} (h : GathN w lo v M) (hb : Below w.heap.size w w') : GathN w' lo v M := by
  obtain ⟨P, e, h1, h3⟩ := h
  exact ⟨P, e, own_keep h1 hb, fun p hp => (h3 p hp).keep hb⟩
/-- The row of a gathering, for an append; and what the append leaves. -/
theorem GathN.push {w1 : World} {lo : Nat} {v : Value} {M : List Nd} (h : GathN w1 lo v M) {d : Nd} {nv : Value} (hN : NumV w1 nv d.xs) :
    ∃ xs, w1.ownsRow lo 78 4 v M.length xs ∧ ∀ v' w2, w2.ownsRow lo 78 4 v' (M.length + 1) (xs ++ [.int .i64 d.k, .int .i64 d.a, .int .i64 d.b, nv]) → w1.grownBy w2 v.ownBlock → GathN w2 lo v' (M ++ [d]) := by
  obtain ⟨P, rfl, h1, h3⟩ := h
  obtain ⟨pn, e1, e2, e3⟩ := hN
  have e3' : NumR w1 0 w1.heap.size ⟨d, nv, pn.q⟩ := by
    obtain ⟨a, c, e, he | ⟨ha, hq, ho⟩⟩ := e3
    · exact ⟨a, c, by rw [← e2, ← e1]; exact e, .inl (by rw [← e1]; exact he)⟩
    · exact ⟨a, c, by rw [← e2, ← e1]; exact e, .inr ⟨ha, hq, by rw [e1, e2] at ho; exact ho⟩⟩
  refine ⟨flatP P, by rw [List.length_map]; exact h1, fun v' w2 ho hg => ⟨P ++ [⟨d, nv, pn.q⟩], by simp, ?_, fun p hp => ?_⟩⟩
  · rw [flatP_snoc]; rw [List.length_map] at ho; simpa [fl4] using ho
  · have keepN : ∀ p' : PNd, NumR w1 0 w1.heap.size p' → NumR w2 0 w2.heap.size p' := by
      rintro p' ⟨a, c, e, he | ⟨ha, hq, hr⟩⟩
      · exact ⟨a, c, e, .inl he⟩
      · refine ⟨a, c, e, .inr ⟨ha, Nat.lt_of_lt_of_le hq hg.size, ?_⟩⟩
        refine hr.kept hg ?_
        cases hv' : v.ownBlock with
        | none => rw [e, ha]; exact .inr (by simp [Value.ownBlock])
        | some g => exact .inr (own_types h1 hr g hv')
    rcases List.mem_append.1 hp with hp | hp
    · exact keepN _ (h3 _ hp)
    · simp at hp; subst hp; exact keepN _ e3'
/-- What an append leaves of a value of numbers. -/
theorem NumV.grown {w1 w2 : World} {lo : Nat} {v nv : Value} {M : List Nd} {xs : List Nat} (h : NumV w1 nv xs) (hG : GathN w1 lo v M) (hg : w1.grownBy w2 v.ownBlock) : NumV w2 nv xs := by
  obtain ⟨P, _, h1, _⟩ := hG
  obtain ⟨p', e1, e2, a, c, e, he | ⟨ha, hq, hr⟩⟩ := h
  · exact ⟨p', e1, e2, a, c, e, .inl he⟩
  · refine ⟨p', e1, e2, a, c, e, .inr ⟨ha, Nat.lt_of_lt_of_le hq hg.size, ?_⟩⟩
    refine hr.kept hg ?_
    cases hv' : v.ownBlock with
    | none => rw [e, ha]; exact .inr (by simp [Value.ownBlock])
    | some g => exact .inr (own_types h1 hr g hv')
theorem rule_of {k : Int} {K : Nat} {b : Bool} (h : kidsK k = K) (hb : okK k = b) (w : World) : Calls Try.prog 73 #[.int .i64 k] w
    fun e w' => e = .returned (.tuple #[.agg #[.int .i64 (cntK k : Nat), .int .i64 (K : Nat), .bool (axK k), .int .i64 (sgK k : Nat)], .bool b]) ∧ Below w.heap.size w w' := by
  subst h hb; exact ruleOf_any k w
theorem ok_kids {k : Int} (h : kidsK k ≠ 0) : okK k = true := by
  unfold kidsK at h
  unfold okK
  split at h
  · simp; omega
  · split at h
    · simp; omega
    · exact absurd rfl h
end Go.Proofs.Ytpbccoobkmahlaa
