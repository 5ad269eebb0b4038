/- Lists of nodes told the same by slices.EqualFunc. No conditions but bounds. -/
import Derived.Test.YtpbccoobkmahlaaSameI
namespace Go.Proofs.Ytpbccoobkmahlaa
open Go.Fl Go.RowKit

def ndAtB (L M : List Nd) (k : Nat) : Bool := ndB (L.getD k default).k (L.getD k default).a (L.getD k default).b (M.getD k default).k (M.getD k default).a (M.getD k default).b (L.getD k default).xs (M.getD k default).xs
def sameN (L M : List Nd) : Bool := decide (L.length = M.length) && (List.range L.length).all (ndAtB L M)
theorem sameN_len {L M : List Nd} (h : ¬ L.length = M.length) : sameN L M = false := by simp [sameN, h]
theorem nup_step {L M : List Nd} {k : Nat} (h : (List.range k).all (ndAtB L M) = true) (hk : ndAtB L M k = true) : (List.range (k + 1)).all (ndAtB L M) = true := by
  rw [List.range_succ, List.all_append, h]; simp [hk]
theorem sameN_no {L M : List Nd} {k : Nat} (hk : k < L.length) (h : ndAtB L M k = false) : sameN L M = false := by
  have : (List.range L.length).all (ndAtB L M) = false := by
    rw [List.all_eq_false]
    exact ⟨k, List.mem_range.2 hk, by rw [h]; simp⟩
  simp [sameN, this]
theorem sameN_yes {L M : List Nd} {k : Nat} (hl : L.length = M.length) (hk : k = L.length) (h : (List.range k).all (ndAtB L M) = true) : sameN L M = true := by
  rw [hk] at h; unfold sameN; rw [h, decide_eq_true hl]; rfl
set_option maxHeartbeats 1000000 in
theorem EqualFuncN_any (v u : Value) (L M : List Nd) (w : World) (h : NodesIn w v L) (h' : NodesIn w u M) (hn : tot L ≤ 1048576) :
    Calls Try.prog 59 #[v, u, .func (.func 60) #[] #[]] w fun e w' => e = .returned (.bool (sameN L M)) ∧ Below w.heap.size w w' := by
  obtain ⟨av, cv, rfl, _⟩ := id h
  obtain ⟨au, cu, rfl, _⟩ := id h'
  have hlen : L.length ≤ 1048576 := by unfold tot at hn; omega
  have H := Lib.hid h
  have H' := Lib.hid h'
  have HT := Lib.hid hn
  clear h h' hn
  by_cases hl : L.length = M.length
  · have hll : ((L.length : Int) != M.length) = false := by simp; omega
    have HL := Lib.hid hl
    clear hl
    go_enter Try.func59, Try.ntmps59
    go_wp2_with fail
    go_loopw [17] (fun i wr => ∃ k : Nat, k ≤ L.length ∧ i = .int .i64 k ∧ Below w.heap.size w wr ∧ RowKit.Hid ((List.range k).all (ndAtB L M) = true)) (fun i _ => L.length - (intOf i).toNat)
    case atStart => exact ⟨0, Nat.zero_le _, rfl, bl_refl _, Lib.hid rfl⟩
    case round =>
      obtain ⟨k, hk, rfl, hbw, ha⟩ := hrel
      by_cases hlt : k < L.length
      · have hlt2 : k < M.length := by have := HL.out; omega
        obtain ⟨g, o, rfl, hg, hc0, hc1, hc2, nv, hc3, hF⟩ := (H.out.keep hbw).at_ hlt
        obtain ⟨g', o', rfl, hg', hd0, hd1, hd2, nu, hd3, hF'⟩ := (H'.out.keep hbw).at_ hlt2
        have hAt := Lib.hid (show ndAtB L M k = ndB (L.getD k default).k (L.getD k default).a (L.getD k default).b (M.getD k default).k (M.getD k default).a (M.getD k default).b (L.getD k default).xs (M.getD k default).xs from rfl)
        have hdx : (L.getD k default).xs.length ≤ 1048576 := by
          have e : L.getD k default = L[k] := by simp [hlt]
          have := sumX_mem (L := L) (d := L.getD k default) (by rw [e]; exact List.getElem_mem hlt)
          have := HT.out
          unfold tot at this; omega
        generalize L.getD k default = d at *
        generalize M.getD k default = d' at *
        have hbr : Below wr.heap.size wr ((wr.alloc (.cells #[.int .i64 d.k, .int .i64 d.a, .int .i64 d.b, nv] 78)).alloc (.cells #[.int .i64 d'.k, .int .i64 d'.a, .int .i64 d'.b, nu] 78)) := bl_alloc (bl_alloc (bl_refl wr) _) _
        have HC := Lib.hid (sameNode_any d.k d.a d.b d'.k d'.a d'.b nv nu d.xs d'.xs _ (hF.keep hbr) (hF'.keep hbr) hdx)
        obtain ⟨nva, nvc, rfl, _⟩ := id hF
        obtain ⟨nua, nuc, rfl, _⟩ := id hF'
        clear hF hF'
        cases hq : ndB d.k d.a d.b d'.k d'.a d'.b d.xs d'.xs
        · have HN := Lib.hid (sameN_no hlt (hAt.out.trans hq))
          rw [hq] at HC
          go_wp2_with (go_at_call 60; refine (Calls.mono (by exact HC.out) ?_); rintro e w1 ⟨rfl, hb1⟩)
          go_ret
          exact ⟨ret_bool HN.out.symm, bl_call (bl_alloc (bl_alloc hbw _) _) hb1⟩
        · have HU := Lib.hid (nup_step ha.out (hAt.out.trans hq))
          rw [hq] at HC
          go_wp2_with (go_at_call 60; refine (Calls.mono (by exact HC.out) ?_); rintro e w1 ⟨rfl, hb1⟩)
          go_roundw
          case rel => exact ⟨k + 1, by omega, by go_num, bl_call (bl_alloc (bl_alloc hbw _) _) hb1, HU⟩
          case measure => simp [intOf]; omega
      · have HY := Lib.hid (sameN_yes HL.out (show k = L.length by omega) ha.out)
        go_wp2_with fail
        go_ret
        exact ⟨ret_bool HY.out.symm, hbw⟩
  · have HN := Lib.hid (sameN_len hl)
    have hd : ((L.length : Int) != M.length) = true := by simp; omega
    go_enter Try.func59, Try.ntmps59
    go_wp2_with fail
    go_ret
    exact ⟨ret_bool HN.out.symm, bl_refl _⟩
theorem SameShape_any (v u : Value) (L M : List Nd) (w : World) (h : NodesIn w v L) (h' : NodesIn w u M) (hn : tot L ≤ 1048576) :
    Calls Try.prog 25 #[.agg #[v], .agg #[u]] w fun e w' => e = .returned (.bool (sameN L M)) ∧ Below w.heap.size w w' := by
  have hb0 : Below w.heap.size w ((w.alloc (.cells #[v] 26)).alloc (.cells #[u] 26)) := bl_alloc (bl_alloc (bl_refl w) _) _
  have HE := Lib.hid (EqualFuncN_any _ _ L M _ (h.keep hb0) (h'.keep hb0) hn)
  obtain ⟨av, cv, rfl, _⟩ := id h
  obtain ⟨au, cu, rfl, _⟩ := id h'
  clear h h'
  go_enter Try.func25, Try.ntmps25
  go_wp2_with (go_at_call 59; refine (Calls.mono (by exact HE.out) ?_); rintro e w1 ⟨rfl, hb1⟩)
  go_ret
  exact ⟨rfl, bl_call hb0 hb1⟩
end Go.Proofs.Ytpbccoobkmahlaa
