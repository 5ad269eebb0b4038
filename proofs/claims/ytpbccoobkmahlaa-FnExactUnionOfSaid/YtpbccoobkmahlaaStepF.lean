/- Numbers appended, as a step of a region that draws. No conditions but bounds. -/
import Derived.Test.YtpbccoobkmahlaaGive
namespace Go.Proofs.Ytpbccoobkmahlaa
open Go.Fl Go.RowKit

/-- All numbers of a slice, appended to a slice that is the call's own and empty: as a step of a region that draws. -/
theorem step_append_fin {w w0 : World} {ops : Array Oper} {o : Oper} {a : Act} {K : Act → World → Prop} {Q : Exit → Act → World → Prop} {E : Prop} (hgd : o.guard = none) (s x : Operand)
    (ho : o.op = .call { callee := .builtin .append, args := #[s, x], argTypes := #[46, 46] })
    (i0 : TypeInfo) (hi : Try.prog.info? 61 = some i0) (hz0 : i0.zero = some (.float .f32 0)) (hz1 : i0.size = 1) (hz2 : i0.bytes = 4)
    (v : Value) (hs : a.eval s = v) (hown : w.ownsRow w0.heap.size 61 1 v 0 []) (sv : Value) (hx : a.eval x = sv) (xs : List Nat) (hF : FIn w sv xs) (hn : xs.length ≤ 1048576) (hb : w0.heap.size ≤ w.heap.size)
    (h : ∀ nv w', NewNum w0 w' nv xs → Below w0.heap.size w w' → w.grownBy w' v.ownBlock → K (a.put o.dst nv) w') : if Region.wanted o (yielded ops a.tmps) = true then Oper.wp Try.prog o a w K Q else E := by
  have hw : Region.wanted o (yielded ops a.tmps) = true := by simp [Region.wanted, hgd]
  rw [if_pos hw]
  obtain ⟨a', cap, rfl, he⟩ := hF
  have hform : ∀ (b : Addr) w' nv, w'.ownsRow w0.heap.size 61 1 nv (0 + xs.length) ([] ++ xs.map (Value.float .f32)) → NewNum w0 w' nv xs := by
    intro b w' nv hr
    rw [Nat.zero_add, List.nil_append] at hr
    by_cases hx0 : xs = []
    · subst hx0
      rcases hr.2 with ⟨e, _⟩ | ⟨g, cp, cur, e, _⟩
      · exact ⟨none, 0, e, .inl rfl⟩
      · exact ⟨_, cp, e, .inl rfl⟩
    · rcases hr.2 with ⟨_, e⟩ | ⟨g, cp, cur, e, hg, _⟩
      · exact absurd (List.length_eq_zero_iff.1 e) hx0
      · exact ⟨_, cp, e, .inr ⟨g, rfl, hg, hr⟩⟩
  have hbel : ∀ w', w.grownBy w' v.ownBlock → Below w0.heap.size w w' := fun w' hg =>
    ⟨hg.os, hg.tape, hg.output, hg.size, fun k hk => hg.block k (by omega) (fun e => by have := (hown.lt k e.symm).1; omega)⟩
  cases a' with
  | none =>
    obtain rfl : xs = [] := by
      rcases he with he | ⟨bb, oo, e, _⟩
      · exact he
      · cases e
    have hrun : (Builtin.append_ #[46, 46] o.type #[v, .slice none 0 cap]).run Try.prog w = .ok v w := by
      rcases hown.2 with ⟨rfl, _⟩ | ⟨g, cp, cur, rfl, _, _, hnc, _⟩
      · simp [Builtin.append_, run_underlying Try.underlying46, sizeOf, typeInfo, hi, Builtin.lenOf, Builtin.firstCells]
      · simp [Builtin.append_, run_underlying Try.underlying46, sizeOf, typeInfo, hi, Builtin.lenOf, Builtin.firstCells, storeCells]
    unfold Oper.wp execOp
    simp only [ho, resolve, invoke, builtin, Sem.run_bind, Sem.run_pure, Result.andThen_ok, List.map_toArray, List.map_cons, List.map_nil, hs, hx, List.length_nil, hrun]
    exact h v w (hform ⟨0, 0, none⟩ w v (by simpa using hown)) (Below.refl _ _) (grown_refl _ _)
  | some b =>
    refine wp_append_own _ s x 46 ho w0.heap.size 61 i0 (.float .f32 0) 1 4 Try.underlying46 hi hz0 hz1 hz2 rfl (by decide) v 0 [] hs hown b xs.length cap (xs.map (Value.float .f32)) hx (by simp) ?_ ?_ (by unfold maxLen; omega) (by omega) hb ?_
    · intro j u hj
      rcases he with rfl | ⟨bb, oo, e, hc⟩
      · simp at hj
      · obtain rfl := Option.some.inj e
        have hjl : j < xs.length := by
          rcases Nat.lt_or_ge j xs.length with h | h
          · exact h
          · rw [List.getElem?_eq_none (by simpa using h)] at hj; cases hj
        rw [add_eq, hc j hjl]
        simpa [hjl] using hj
    · intro u hu
      obtain ⟨y, _, rfl⟩ := List.mem_map.1 hu
      rfl
    · intro v' w' hown' hg _
      exact h v' w' (hform b w' v' hown') (hbel w' hg) hg
end Go.Proofs.Ytpbccoobkmahlaa
