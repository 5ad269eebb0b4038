/- Shapes compared by the laws. No conditions but bounds. -/
import Derived.Test.YtpbccoobkmahlaaShapeU
namespace Go.Proofs.Ytpbccoobkmahlaa
open Go.Fl Go.RowKit

set_option maxHeartbeats 1000000 in
theorem eqNode_true (k a b : Int) (v u : Value) (xs : List Nat) (w : World) (h : FIn w v xs) (h' : FIn w u xs) (hn : xs.length ≤ 1048576) :
    Calls Try.prog 83 #[.agg #[.int .i64 k, .int .i64 a, .int .i64 b, v], .agg #[.int .i64 k, .int .i64 a, .int .i64 b, u]] w fun e w' => e = .returned (.bool true) ∧ Below w.heap.size w w' := by
  obtain ⟨av, cv, rfl, _⟩ := id h
  obtain ⟨au, cu, rfl, _⟩ := id h'
  have hb0 : Below w.heap.size w ((w.alloc (.cells #[.int .i64 k, .int .i64 a, .int .i64 b, .slice av xs.length cv] 78)).alloc (.cells #[.int .i64 k, .int .i64 a, .int .i64 b, .slice au xs.length cu] 78)) := bl_alloc (bl_alloc (bl_refl w) _) _
  have HE := Lib.hid (fun n => eqFloat32S_true _ _ xs _ ((h.keep hb0).drewN n) ((h'.keep hb0).drewN n) hn)
  clear h h'
  go_enter Try.func83, Try.ntmps83
  go_wp2_with (go_at_call 33; refine (Calls.mono (by first | exact HE.out 0 | exact HE.out _) ?_); rintro e w1 ⟨rfl, n, rfl⟩)
  go_ret
  exact ⟨rfl, by repeat (first | with_reducible exact hb0 | with_reducible refine bl_drewN ?_ _ | with_reducible refine bl_drew ?_)⟩
set_option maxHeartbeats 1000000 in
theorem eqNodeS_true (v u : Value) (L : List Nd) (w : World) (h : NodesIn w v L) (h' : NodesIn w u L) (hn : tot L ≤ 1048576) :
    Calls Try.prog 53 #[v, u] w fun e w' => e = .returned (.bool true) ∧ Below w.heap.size w w' := by
  obtain ⟨av, cv, rfl, _⟩ := id h
  obtain ⟨au, cu, rfl, _⟩ := id h'
  have hlen : L.length ≤ 1048576 := by unfold tot at hn; omega
  have H := Lib.hid h
  have H' := Lib.hid h'
  have HT := Lib.hid hn
  clear h h' hn
  go_enter Try.func53, Try.ntmps53
  go_wp2_with fail
  go_loopw [5] (fun i wr => ∃ k : Nat, k ≤ L.length ∧ i = .int .i64 k ∧ Below w.heap.size w wr) (fun i _ => L.length - (intOf i).toNat)
  case atStart => exact ⟨0, Nat.zero_le _, rfl, bl_refl _⟩
  case round =>
    obtain ⟨k, hk, rfl, hbw⟩ := hrel
    by_cases hlt : k < L.length
    · obtain ⟨g, o, rfl, hg, hc0, hc1, hc2, nv, hc3, hF⟩ := (H.out.keep hbw).at_ hlt
      obtain ⟨g', o', rfl, hg', hd0, hd1, hd2, nu, hd3, hF'⟩ := (H'.out.keep hbw).at_ hlt
      obtain ⟨d, hd⟩ : ∃ d, L.getD k default = d := ⟨_, rfl⟩
      rw [hd] at hc0 hc1 hc2 hd0 hd1 hd2 hF hF'
      have hdx : d.xs.length ≤ 1048576 := by
        have e : L[k] = d := by rw [← hd]; simp [hlt]
        have := sumX_mem (L := L) (d := d) (by rw [← e]; exact List.getElem_mem hlt)
        have := HT.out
        unfold tot at this; omega
      have HC := Lib.hid (fun n => eqNode_true d.k d.a d.b nv nu d.xs (wr.drewN n) (hF.drewN n) (hF'.drewN n) hdx)
      clear hd hF hF'
      go_wp2_with fail
      go_region_with (go_at_call 83; refine (Calls.mono (by first | exact HC.out 0 | exact HC.out _) ?_); rintro e w1 ⟨rfl, hb1⟩)
      all_goals (go_wp2_with fail; go_roundw)
      all_goals first | exact ⟨k + 1, by omega, by go_num, by first | exact bl_call (bl_drewN hbw _) hb1 | exact bl_call hbw hb1⟩ | (simp [intOf]; omega)
    · go_wp2_with fail
      go_ret
      exact ⟨rfl, hbw⟩
set_option maxHeartbeats 1000000 in
theorem eqShape_true (v u : Value) (L : List Nd) (w : World) (h : NodesIn w v L) (h' : NodesIn w u L) (hn : tot L ≤ 1048576) :
    Calls Try.prog 17 #[.agg #[v], .agg #[u]] w fun e w' => e = .returned (.bool true) ∧ Below w.heap.size w w' := by
  have hb0 : Below w.heap.size w ((w.alloc (.cells #[v] 26)).alloc (.cells #[u] 26)) := bl_alloc (bl_alloc (bl_refl w) _) _
  have HE := Lib.hid (eqNodeS_true _ _ L _ (h.keep hb0) (h'.keep hb0) hn)
  obtain ⟨av, cv, rfl, _⟩ := id h
  obtain ⟨au, cu, rfl, _⟩ := id h'
  clear h h'
  go_enter Try.func17, Try.ntmps17
  go_wp2_with (go_at_call 53; refine (Calls.mono (by exact HE.out) ?_); rintro e w1 ⟨rfl, hb1⟩)
  go_ret
  exact ⟨rfl, bl_call hb0 hb1⟩
end Go.Proofs.Ytpbccoobkmahlaa
