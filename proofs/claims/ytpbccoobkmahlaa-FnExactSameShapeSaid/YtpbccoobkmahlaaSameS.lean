/- SameShape as the reference says it. No conditions but bounds. -/
import Derived.Test.YtpbccoobkmahlaaSameN
import Derived.BigQuiet
namespace Go.Proofs.Ytpbccoobkmahlaa
open Go.Fl Go.RowKit

theorem Same_q (v u : Value) (xs ys : List Nat) (w : World) (h : FIn w v xs) (h' : FIn w u ys) (hx : ∀ x ∈ xs, x < 4294967296) (hy : ∀ x ∈ ys, x < 4294967296) (hn : xs.length ≤ 1048576) :
    Calls Try.prog 57 #[v, u] w fun e w' => e = .returned (.bool (sameL xs ys)) ∧ ∃ m, w' = w.drewN m := l01SameAll_any v u xs ys w h h' hx hy hn
set_option maxHeartbeats 4000000 in
theorem spec_SameShape_any (v u : Value) (L M : List Nd) (w : World) (h : NodesIn w v L) (h' : NodesIn w u M) (hn : tot L ≤ 1048576) (hs : Small L) (hs' : Small M) :
    Calls Try.prog 23 #[.agg #[v], .agg #[u]] w fun e w' => e = .returned (.bool (sameN L M)) ∧ Below w.heap.size w w' := by
  obtain ⟨av, cv, rfl, _⟩ := id h
  obtain ⟨au, cu, rfl, _⟩ := id h'
  have hlen : L.length ≤ 1048576 := by unfold tot at hn; omega
  have H := Lib.hid h
  have H' := Lib.hid h'
  have HT := Lib.hid hn
  have HsL := Lib.hid hs
  have HsM := Lib.hid hs'
  clear h h' hn hs hs'
  have hb0 : Below w.heap.size w ((w.alloc (.cells #[.slice av L.length cv] 26)).alloc (.cells #[.slice au M.length cu] 26)) := bl_alloc (bl_alloc (bl_refl w) _) _
  by_cases hl : L.length = M.length
  · have hll : ((L.length : Int) != M.length) = false := by simp; omega
    have HL := Lib.hid hl
    clear hl
    go_enter Try.func23, Try.ntmps23
    go_wp2_with fail
    go_loopw [5] (fun i wr => ∃ k : Nat, k ≤ L.length ∧ i = .int .i64 k ∧ Below ((w.alloc (.cells #[.slice av L.length cv] 26)).alloc (.cells #[.slice au M.length cu] 26)).heap.size ((w.alloc (.cells #[.slice av L.length cv] 26)).alloc (.cells #[.slice au M.length cu] 26)) wr ∧ RowKit.Hid ((List.range k).all (ndAtB L M) = true)) (fun i _ => L.length - (intOf i).toNat)
    case atStart => exact ⟨0, Nat.zero_le _, rfl, bl_refl _, Lib.hid rfl⟩
    case round =>
      obtain ⟨k, hk, rfl, hbr, ha⟩ := hrel
      have hbw := bl_call hb0 hbr
      have hsz := hbr.size
      simp at hsz
      have s1 : Bl1 wr (w.heap.size + 1) (.slice au M.length cu) := Bl1.below (by have := heap_alloc_new (w.alloc (.cells #[.slice av L.length cv] 26)) (.cells #[.slice au M.length cu] 26); simpa [Bl1] using this) hbr (by simp)
      have s0 : Bl1 wr w.heap.size (.slice av L.length cv) := Bl1.below ((Below.heap_alloc _ _ _ (by simp)).trans (heap_alloc_new _ _)) hbr (by simp; omega)
      have t0 := s0.cell
      have t1 := s1.cell
      clear s0 s1
      by_cases hlt : k < L.length
      · have hlt2 : k < M.length := by have := HL.out; omega
        have hN1 : NodesIn wr (.slice av L.length cv) L := H.out.keep hbw
        have hN2 : NodesIn wr (.slice au M.length cu) M := H'.out.keep hbw
        obtain ⟨g, o, rfl, hg, hc0, hc1, hc2, nv, hc3, hF⟩ := hN1.at_ hlt
        obtain ⟨g', o', rfl, hg', hd0, hd1, hd2, nu, hd3, hF'⟩ := hN2.at_ hlt2
        clear hN1 hN2
        have hAt := Lib.hid (show ndAtB L M k = ndB (L.getD k default).k (L.getD k default).a (L.getD k default).b (M.getD k default).k (M.getD k default).a (M.getD k default).b (L.getD k default).xs (M.getD k default).xs from rfl)
        have hdx : (L.getD k default).xs.length ≤ 1048576 := by
          have e : L.getD k default = L[k] := by simp [hlt]
          have := sumX_mem (L := L) (d := L.getD k default) (by rw [e]; exact List.getElem_mem hlt)
          have := HT.out
          unfold tot at this; omega
        have hx1 := small_bits HsL.out hlt rfl
        have hx2 := small_bits HsM.out hlt2 rfl
        have HR := Lib.hid (fun n : Nat => Below.drewN hbr n)
        generalize L.getD k default = d at *
        generalize M.getD k default = d' at *
        have hbl : ∀ n, Below w.heap.size w (wr.drewN n) := fun n => bl_drewN hbw n
        have HB := Lib.hid hbl
        clear hbl
        cases h1 : (d.k == d'.k)
        · have h1' : (d.k != d'.k) = true := by simpa using h1
          have HN := Lib.hid (sameN_no hlt (hAt.out.trans (by unfold ndB; rw [h1]; rfl)))
          clear hF hF' h1
          go_wp2_with fail
          go_quiet (fail)
          go_wp2_with fail
          go_ret
          exact ⟨ret_bool HN.out.symm, HB.out _⟩
        · have h1' : (d.k != d'.k) = false := by simpa using h1
          cases h2 : (d.a == d'.a)
          · have h2' : (d.a != d'.a) = true := by simpa using h2
            have HN := Lib.hid (sameN_no hlt (hAt.out.trans (by unfold ndB; rw [h1, h2]; rfl)))
            clear hF hF' h1 h2
            go_wp2_with fail
            go_quiet (fail)
            go_wp2_with fail
            go_ret
            exact ⟨ret_bool HN.out.symm, HB.out _⟩
          · have h2' : (d.a != d'.a) = false := by simpa using h2
            cases h3 : (d.b == d'.b)
            · have h3' : (d.b != d'.b) = true := by simpa using h3
              have HN := Lib.hid (sameN_no hlt (hAt.out.trans (by unfold ndB; rw [h1, h2, h3]; rfl)))
              clear hF hF' h1 h2 h3
              go_wp2_with fail
              go_quiet (fail)
              go_wp2_with fail
              go_ret
              exact ⟨ret_bool HN.out.symm, HB.out _⟩
            · have h3' : (d.b != d'.b) = false := by simpa using h3
              cases hq : sameL d.xs d'.xs
              · have HN := Lib.hid (sameN_no hlt (hAt.out.trans (by unfold ndB; rw [h1, h2, h3, hq]; rfl)))
                have HC := Lib.hid (fun n => Same_q nv nu d.xs d'.xs (wr.drewN n) (hF.drewN n) (hF'.drewN n) hx1 hx2 hdx)
                rw [hq] at HC
                clear hF hF' h1 h2 h3 hq
                go_wp2_with fail
                go_quiet (first | (go_at_call 57; exact Calls.quiet_of (HC.out _)))
                go_wp2_with fail
                go_ret
                exact ⟨ret_bool HN.out.symm, HB.out _⟩
              · have HU := Lib.hid (nup_step ha.out (hAt.out.trans (by unfold ndB; rw [h1, h2, h3, hq]; rfl)))
                have HC := Lib.hid (fun n => Same_q nv nu d.xs d'.xs (wr.drewN n) (hF.drewN n) (hF'.drewN n) hx1 hx2 hdx)
                rw [hq] at HC
                clear hF hF' h1 h2 h3 hq
                go_wp2_with fail
                go_quiet (first | (go_at_call 57; exact Calls.quiet_of (HC.out _)))
                go_wp2_with fail
                go_roundw
                case rel => exact ⟨k + 1, by omega, by go_num, by exact HR.out _, HU⟩
                case measure => simp [intOf]; omega
      · have HY := Lib.hid (sameN_yes HL.out (show k = L.length by omega) ha.out)
        go_wp2_with fail
        go_ret
        exact ⟨ret_bool HY.out.symm, hbw⟩
  · have HN := Lib.hid (sameN_len hl)
    have hd : ((L.length : Int) != M.length) = true := by simp; omega
    go_enter Try.func23, Try.ntmps23
    go_wp2_with fail
    go_ret
    exact ⟨ret_bool HN.out.symm, hb0⟩
end Go.Proofs.Ytpbccoobkmahlaa
