/- Numbers appended to a slice of the call's own; nodes and shapes cloned. No conditions but bounds. -/
import Derived.Test.YtpbccoobkmahlaaShapeO
import Derived.Test.YtpbccoobkmahlaaDepS
import Derived.Deep.AppendLies
import Derived.Deep.RegionLaw
import Derived.Laws.AppendOwnNone
namespace Go.Proofs.Ytpbccoobkmahlaa
open Go.Fl Go.RowKit

/-- A value of numbers in memory made since w0. -/
def NewNum (w0 w : World) (nv : Value) (xs : List Nat) : Prop := ∃ a c, nv = .slice a xs.length c ∧ (xs = [] ∨ ∃ q, a = some ⟨q, 0, none⟩ ∧ w0.heap.size ≤ q ∧ w.ownsRow w0.heap.size 61 1 nv xs.length (xs.map (Value.float .f32)))
theorem NewNum.keep {w0 w w' : World} {nv : Value} {xs : List Nat} (h : NewNum w0 w nv xs) (hb : Below w.heap.size w w') : NewNum w0 w' nv xs := by
  obtain ⟨a, c, e, he | ⟨q, ha, hq, ho⟩⟩ := h
  · exact ⟨a, c, e, .inl he⟩
  · exact ⟨a, c, e, .inr ⟨q, ha, hq, own_keep ho hb⟩⟩
theorem NewNum.base {w0 w1 w : World} {nv : Value} {xs : List Nat} (h : NewNum w1 w nv xs) (hb : w0.heap.size ≤ w1.heap.size) : NewNum w0 w nv xs := by
  obtain ⟨a, c, e, he | ⟨q, ha, hq, ho⟩⟩ := h
  · exact ⟨a, c, e, .inl he⟩
  · exact ⟨a, c, e, .inr ⟨q, ha, Nat.le_trans hb hq, own_mono ho hb⟩⟩
theorem NewNum.fin {w0 w : World} {nv : Value} {xs : List Nat} (h : NewNum w0 w nv xs) : FIn w nv xs := by
  obtain ⟨a, c, e, he | ⟨q, ha, hq, ho⟩⟩ := h
  · exact ⟨a, c, e, .inl he⟩
  · exact FIn_of_own rfl ho
/-- .. and so the numbers of a node. -/
theorem NewNum.num {w0 w : World} {nv : Value} {d : Nd} (h : NewNum w0 w nv d.xs) {lo : Nat} (hlo : lo ≤ w0.heap.size) : ∃ p : PNd, p.d = d ∧ p.nv = nv ∧ NumR w lo w.heap.size p ∧ (p.d.xs = [] ∨ w0.heap.size ≤ p.q) := by
  obtain ⟨a, c, e, he | ⟨q, ha, hq, ho⟩⟩ := h
  · exact ⟨⟨d, nv, 0⟩, rfl, rfl, ⟨a, c, e, .inl he⟩, .inl he⟩
  · refine ⟨⟨d, nv, q⟩, rfl, rfl, ⟨a, c, e, .inr ⟨ha, ?_, own_mono ho hlo⟩⟩, .inr hq⟩
    exact (ho.lt q (by rw [e, ha]; rfl)).2
theorem wpList_append_none0 {w : World} {base : Nat} {ops : Array Oper} {rest : List Oper} {o : Oper} {a : Act} {Q : Exit → Act → World → Prop} (hgd : o.guard = none) (s x : Operand)
    (ho : o.op = .call { callee := .builtin .append, args := #[s, x], argTypes := #[46, 46] })
    (i0 : TypeInfo) (hi : Try.prog.info? 61 = some i0) (v : Value) (hs : a.eval s = v) (hown : w.ownsRow base 61 1 v 0 []) (c : Nat) (hx : a.eval x = .slice none 0 c)
    (h : wpList Try.prog ops Q rest (a.put o.dst v) w) : wpList Try.prog ops Q (o :: rest) a w := by
  refine wpList_plain hgd fun K hK => ?_
  have hrun : (Builtin.append_ #[46, 46] o.type #[v, .slice none 0 c]).run Try.prog w = .ok v w := by
    rcases hown.2 with ⟨rfl, _⟩ | ⟨g, cap, cur, rfl, _, _, hnc, _⟩
    · simp [Builtin.append_, run_underlying Try.underlying46, sizeOf, typeInfo, hi, Builtin.lenOf, Builtin.firstCells]
    · simp [Builtin.append_, run_underlying Try.underlying46, sizeOf, typeInfo, hi, Builtin.lenOf, Builtin.firstCells, storeCells]
  unfold Oper.wp
  simp [execOp, ho, resolve, invoke, builtin, hs, hx, hrun, Result.andThen]
  exact hK _ _ h
/-- All numbers of a slice, appended to a slice that is the call's own and empty. -/
theorem wpList_append_fin {w w0 : World} {ops : Array Oper} {rest : List Oper} {o : Oper} {a : Act} {Q : Exit → Act → World → Prop} (hgd : o.guard = none) (s x : Operand)
    (ho : o.op = .call { callee := .builtin .append, args := #[s, x], argTypes := #[46, 46] })
    (i0 : TypeInfo) (hi : Try.prog.info? 61 = some i0) (hz0 : i0.zero = some (.float .f32 0)) (hz1 : i0.size = 1) (hz2 : i0.bytes = 4)
    (v : Value) (hs : a.eval s = v) (hown : w.ownsRow w0.heap.size 61 1 v 0 []) (sv : Value) (hx : a.eval x = sv) (xs : List Nat) (hF : FIn w sv xs) (hn : xs.length ≤ 1048576) (hb : w0.heap.size ≤ w.heap.size)
    (h : ∀ nv w', NewNum w0 w' nv xs → Below w0.heap.size w w' → w.grownBy w' v.ownBlock → wpList Try.prog ops Q rest (a.put o.dst nv) w') : wpList Try.prog ops Q (o :: rest) a w := by
  obtain ⟨a', cap, rfl, he⟩ := hF
  have hform : ∀ (b : Addr) w' nv, w'.ownsRow w0.heap.size 61 1 nv (0 + xs.length) ([] ++ xs.map (Value.float .f32)) → NewNum w0 w' nv xs := by
    intro b w' nv hr
    rw [Nat.zero_add, List.nil_append] at hr
    by_cases hx0 : xs = []
    · subst hx0
      rcases hr.2 with ⟨e, _⟩ | ⟨g, cp, cur, e, _⟩
      · exact ⟨none, 0, e, .inl rfl⟩
      · exact ⟨_, cp, e, .inl rfl⟩
    · rcases hr.2 with ⟨_, e⟩ | ⟨g, cp, cur, e, hg, _⟩
      · exact absurd (List.length_eq_zero_iff.1 e) hx0
      · exact ⟨_, cp, e, .inr ⟨g, rfl, hg, hr⟩⟩
  have hbel : ∀ w', w.grownBy w' v.ownBlock → Below w0.heap.size w w' := fun w' hg =>
    ⟨hg.os, hg.tape, hg.output, hg.size, fun k hk => hg.block k (by omega) (fun e => by have := (hown.lt k e.symm).1; omega)⟩
  cases a' with
  | none =>
    obtain rfl : xs = [] := by
      rcases he with he | ⟨bb, oo, e, _⟩
      · exact he
      · cases e
    refine wpList_append_none0 hgd s x ho i0 hi v hs hown cap hx ?_
    exact h v w (hform ⟨0, 0, none⟩ w v (by simpa using hown)) (Below.refl _ _) (grown_refl _ _)
  | some b =>
    refine wpList_append_own _ hgd s x 46 ho w0.heap.size 61 i0 (.float .f32 0) 1 4 Try.underlying46 hi hz0 hz1 hz2 rfl (by decide) v 0 [] hs hown b xs.length cap (xs.map (Value.float .f32)) hx (by simp) ?_ ?_ (by unfold maxLen; omega) (by omega) hb ?_
    · intro j u hj
      rcases he with rfl | ⟨bb, oo, e, hc⟩
      · simp at hj
      · obtain rfl := Option.some.inj e
        have hjl : j < xs.length := by
          rcases Nat.lt_or_ge j xs.length with h | h
          · exact h
          · rw [List.getElem?_eq_none (by simpa using h)] at hj; cases hj
        rw [add_eq, hc j hjl]
        simpa [hjl] using hj
    · intro u hu
      obtain ⟨y, _, rfl⟩ := List.mem_map.1 hu
      rfl
    · intro v' w' hown' hg _
      exact h v' w' (hform b w' v' hown') (hbel w' hg) hg
end Go.Proofs.Ytpbccoobkmahlaa
