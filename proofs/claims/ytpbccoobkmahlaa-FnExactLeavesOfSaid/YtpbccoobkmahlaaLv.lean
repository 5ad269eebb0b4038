/- The leaves of a shape, as both sides gather them. No conditions but bounds. -/
import Derived.Test.YtpbccoobkmahlaaDepS
namespace Go.Proofs.Ytpbccoobkmahlaa
open Go.Fl Go.RowKit

def lvs (L : List Nd) : Nat → List Int
  | 0 => []
  | k + 1 => if kidsK (at_ L k).k = 0 then lvs L k ++ [(k : Int)] else lvs L k
theorem lvs_len (L : List Nd) : ∀ k, (lvs L k).length ≤ k
  | 0 => by simp [lvs]
  | k + 1 => by
    have := lvs_len L k
    unfold lvs; split <;> simp <;> omega
theorem lvs_yes {L : List Nd} {k : Nat} {d : Nd} (hd : at_ L k = d) (h : kidsK d.k = 0) : lvs L (k + 1) = lvs L k ++ [(k : Int)] := by simp [lvs, hd, h]
theorem lvs_no {L : List Nd} {k : Nat} {d : Nd} (hd : at_ L k = d) (h : ¬ kidsK d.k = 0) : lvs L (k + 1) = lvs L k := by simp [lvs, hd, h]
def lvZ (L : List Nd) : List Int := if valid L = true then lvs L L.length else []
def LOut (w : World) (L : List Nd) : Ending → World → Prop := fun e w' => ∃ v, e = .returned (.tuple #[v, .bool (valid L)]) ∧ w'.ownsRow w.heap.size 2 1 v (lvZ L).length ((lvZ L).map (Value.int .i64)) ∧ Below w.heap.size w w'
theorem LOut_no {w w' : World} {L : List Nd} (h : valid L = false) (hb : Below w.heap.size w w') : LOut w L (.returned (.tuple #[.slice none 0 0, .bool false])) w' := by
  unfold LOut lvZ; rw [h]; exact ⟨_, rfl, World.ownsRow_nil _ _ _ _, hb⟩
theorem LOut_yes {w w' : World} {L : List Nd} {v : Value} (h : valid L = true) (ho : w'.ownsRow (w.heap.size + 1) 2 1 v (lvs L L.length).length ((lvs L L.length).map (Value.int .i64))) (hb : Below w.heap.size w w') : LOut w L (.returned (.tuple #[v, .bool true])) w' := by
  unfold LOut lvZ; rw [h]; exact ⟨_, rfl, own_mono ho (Nat.le_succ _), hb⟩
theorem lvs_row {w : World} {B k : Nat} {v : Value} {L : List Nd} (he : lvs L (k + 1) = lvs L k ++ [(k : Int)]) (h : w.ownsRow B 2 1 v ((lvs L k).length + 1) ((lvs L k).map (Value.int .i64) ++ [.int .i64 (k : Int)])) :
    w.ownsRow B 2 1 v (lvs L (k + 1)).length ((lvs L (k + 1)).map (Value.int .i64)) := by
  rw [he]; simpa using h
set_option maxHeartbeats 8000000 in
set_option maxRecDepth 100000 in
theorem LeavesOf_any (v : Value) (L : List Nd) (w : World) (h : NodesIn w v L) (hm : Mod L) : Calls Try.prog 36 #[.agg #[v]] w (LOut w L) := by
  obtain ⟨i0, hi, hz0, hz1, hz2⟩ := info_parts info_i64
  obtain ⟨av, cv, rfl, _⟩ := id h
  have H := Lib.hid h
  have HM := Lib.hid hm
  have hlm := hm.1
  have hb0 := bl1 w (.cells #[.slice av L.length cv] 26)
  have hbx := box1 w (.slice av L.length cv) 26
  clear h hm
  cases hV : valid L
  · have HV := Lib.hid hV
    have HC := Lib.hid (fun W hW => ValidShape_at hV (.slice av L.length cv) W hW HM.out)
    clear hV
    go_enter Try.func36, Try.ntmps36
    go_wp2_with (go_at_call 27; refine (Calls.mono (by exact HC.out _ (H.out.keep hb0)) ?_); rintro e w1 ⟨rfl, hb1⟩)
    go_ret2
    exact LOut_no HV.out (bl_call hb0 hb1)
  · have HV := Lib.hid hV
    have HC := Lib.hid (fun W hW => ValidShape_at hV (.slice av L.length cv) W hW HM.out)
    have hlen := valid_parts hV
    have hn1 := hlen.1
    have hn2 := hlen.2.1
    clear hV hlen
    go_enter Try.func36, Try.ntmps36
    go_wp2_with (go_at_call 27; refine (Calls.mono (by exact HC.out _ (H.out.keep hb0)) ?_); rintro e w1 ⟨rfl, hb1⟩; have hbx1 := cellk hbx hb1; have e1 := bl_call hb0 hb1; have hsz := e1.size; have hbx2 := cellk hbx1 (bl1 w1 (.cells #[] 2)))
    have e2 := bl_alloc e1 (.cells #[] 2)
    have hsz1 : w.heap.size + 1 ≤ w1.heap.size := World.block_lt_of_cell? w1 _ hbx1
    have hown := World.ownsRow_made (base := w.heap.size + 1) (e := 2) (size := 1) w1 #[] 0 hsz1 (by decide) (by simp)
    clear hb0 hb1 hbx hbx1 e1 HC
    go_loopw [4, 13] (fun v i wr => ∃ k : Nat, k ≤ L.length ∧ i = .int .i64 k ∧ wr.ownsRow (w.heap.size + 1) 2 1 v (lvs L k).length ((lvs L k).map (Value.int .i64)) ∧ Below w.heap.size w wr ∧ wr.cell? ⟨w.heap.size, 0, none⟩ = some (.slice av L.length cv)) (fun _ i _ => L.length - (intOf i).toNat)
    case atStart => exact ⟨0, Nat.zero_le _, rfl, hown, e2, hbx2⟩
    case round =>
      clear hown e2 hbx2
      obtain ⟨k, hk, rfl, hown, hbw, hbx⟩ := hrel
      by_cases hlt : k < L.length
      · obtain ⟨g, p, rfl, hg, hNd⟩ := (H.out.keep hbw).at_ hlt
        obtain ⟨d, hd⟩ : ∃ d, at_ L k = d := ⟨_, rfl⟩
        have hNd2 : NdAt wr g (p + k * 4) d := by rw [← hd]; exact hNd
        have HC := Lib.hid (childrenOf_any g (p + k * 4) d wr hNd2)
        have Hd := Lib.hid hd
        have hll := lvs_len L k
        have Hown := Lib.hid hown
        clear hNd hNd2 hd hown
        by_cases hK : kidsK d.k = 0
        · have He := Lib.hid (lvs_yes Hd.out hK)
          rw [hK] at HC
          clear hK
          go_wp2_with (first | (go_at_call 63; refine (Calls.mono (by exact HC.out) ?_); rintro e w9 ⟨q, rfl, hq, hb9⟩; have hown9 := own_keep Hown.out hb9; have hbw9 := bl_call hbw hb9; have hbx9 := cellk hbx hb9; have hbz : w.heap.size < w9.heap.size := World.block_lt_of_cell? w9 _ hbx9) | (at_builtin; refine wpList_append_own _ rfl (.tmp 23) (.tmp 25) 52 rfl (w.heap.size + 1) 2 i0 (.int .i64 0) 1 8 Try.underlying52 hi hz0 hz1 hz2 rfl (by decide) _ (lvs L k).length _ rfl (hown9.alloc _) ⟨w9.heap.size, 0, none⟩ 1 1 [.int .i64 (k : Int)] rfl rfl (new1 w9 _ _) (one1 rfl) (by unfold maxLen; omega) (by omega) (by simp; omega) ?_; intro v' w5 hown' hgrow _))
          have hb3 := grown_below (bl_alloc hbw9 _) (hown9.alloc _) (Nat.le_succ _) hgrow
          have hbx3 := cell_grown_own hbx9 (hown9.alloc _) (bl1 _ _) hgrow (by simp)
          clear hgrow
          go_roundw
          case rel => exact ⟨k + 1, by omega, by go_num, lvs_row He.out hown', hb3, hbx3⟩
          case measure => simp [intOf]; omega
        · have He := Lib.hid (lvs_no Hd.out hK)
          obtain ⟨K, hKK⟩ : ∃ K, kidsK d.k = K := ⟨_, rfl⟩
          rw [hKK] at HC hK
          clear hKK
          have hK0 : ((K : Int) == 0) = false := by simp; omega
          go_wp2_with (first | (go_at_call 63; refine (Calls.mono (by exact HC.out) ?_); rintro e w9 ⟨q, rfl, hq, hb9⟩))
          go_roundw
          case rel => exact ⟨k + 1, by omega, by go_num, by rw [He.out]; exact own_keep Hown.out hb9, bl_call hbw hb9, cellk hbx hb9⟩
          case measure => simp [intOf]; omega
      · obtain rfl : k = L.length := by omega
        go_wp2_with fail
        go_ret2
        exact LOut_yes HV.out hown hbw
set_option maxHeartbeats 8000000 in
set_option maxRecDepth 100000 in
theorem spec_LeavesOf_any (v : Value) (L : List Nd) (w : World) (h : NodesIn w v L) (hm : Mod L) : Calls Try.prog 35 #[.agg #[v]] w (LOut w L) := by
  obtain ⟨i0, hi, hz0, hz1, hz2⟩ := info_parts info_i64
  obtain ⟨av, cv, rfl, _⟩ := id h
  have H := Lib.hid h
  have HM := Lib.hid hm
  have hlm := hm.1
  have hb0 := bl1 w (.cells #[.slice av L.length cv] 26)
  have hbx := box1 w (.slice av L.length cv) 26
  clear h hm
  cases hV : valid L
  · have HV := Lib.hid hV
    have HC := Lib.hid (fun W hc hW => l02Is_at hV w.heap.size 0 (.slice av L.length cv) W hc hW HM.out)
    clear hV
    go_enter Try.func35, Try.ntmps35
    go_wp2_with (go_at_call 49; refine (Calls.mono (by exact HC.out _ hbx (H.out.keep hb0)) ?_); rintro e w1 ⟨rfl, hb1⟩)
    go_ret2
    exact LOut_no HV.out (bl_call hb0 hb1)
  · have HV := Lib.hid hV
    have HC := Lib.hid (fun W hc hW => l02Is_at hV w.heap.size 0 (.slice av L.length cv) W hc hW HM.out)
    have hlen := valid_parts hV
    have hn1 := hlen.1
    have hn2 := hlen.2.1
    clear hV hlen
    go_enter Try.func35, Try.ntmps35
    go_wp2_with (go_at_call 49; refine (Calls.mono (by exact HC.out _ hbx (H.out.keep hb0)) ?_); rintro e w1 ⟨rfl, hb1⟩; have hbx1 := cellk hbx hb1; have e1 := bl_call hb0 hb1; have hsz := e1.size; have hbx2 := cellk hbx1 (bl1 w1 (.cells #[] 2)))
    have e2 := bl_alloc e1 (.cells #[] 2)
    have hsz1 : w.heap.size + 1 ≤ w1.heap.size := World.block_lt_of_cell? w1 _ hbx1
    have hown := World.ownsRow_made (base := w.heap.size + 1) (e := 2) (size := 1) w1 #[] 0 hsz1 (by decide) (by simp)
    clear hb0 hb1 hbx hbx1 e1 HC
    go_loopw [4, 5] (fun v i wr => ∃ k : Nat, k ≤ L.length ∧ i = .int .i64 k ∧ wr.ownsRow (w.heap.size + 1) 2 1 v (lvs L k).length ((lvs L k).map (Value.int .i64)) ∧ Below w.heap.size w wr ∧ wr.cell? ⟨w.heap.size, 0, none⟩ = some (.slice av L.length cv)) (fun _ i _ => L.length - (intOf i).toNat)
    case atStart => exact ⟨0, Nat.zero_le _, rfl, hown, e2, hbx2⟩
    case round =>
      clear hown e2 hbx2
      obtain ⟨k, hk, rfl, hown, hbw, hbx⟩ := hrel
      by_cases hlt : k < L.length
      · obtain ⟨g, p, rfl, hg, hNd⟩ := (H.out.keep hbw).at_ hlt
        obtain ⟨d, hd⟩ : ∃ d, at_ L k = d := ⟨_, rfl⟩
        have hNd2 : NdAt wr g (p + k * 4) d := by rw [← hd]; exact hNd
        obtain ⟨c0, c1, c2⟩ := hNd2.facts
        have hkd := okNd_kind (i := k) (d := d) (by rw [← hd]; exact valid_ok HV.out hlt)
        have Hd := Lib.hid hd
        have hll := lvs_len L k
        have hbz : w.heap.size < wr.heap.size := World.block_lt_of_cell? wr _ hbx
        clear hNd hNd2 hd
        cases hlf : leafK d.k
        · have He := Lib.hid (lvs_no Hd.out (fun e => by rw [leaf_kids hkd, e] at hlf; simp at hlf))
          have Hl := Lib.hid (fun W => l02Leaf_at hlf W)
          clear hlf hkd
          go_wp2_with (go_at_call 66; refine (Calls.mono (by exact Hl.out _) ?_); rintro e w' ⟨rfl, he⟩; subst w')
          go_roundw
          case rel => exact ⟨k + 1, by omega, by go_num, by rw [He.out]; exact hown, hbw, hbx⟩
          case measure => simp [intOf]; omega
        · have He := Lib.hid (lvs_yes Hd.out (kids0 hkd hlf))
          have Hl := Lib.hid (fun W => l02Leaf_at hlf W)
          clear hlf hkd
          go_wp2_with (first | (go_at_call 66; refine (Calls.mono (by exact Hl.out _) ?_); rintro e w' ⟨rfl, he⟩; subst w') | (at_builtin; refine wpList_append_own _ rfl (.tmp 23) (.tmp 25) 52 rfl (w.heap.size + 1) 2 i0 (.int .i64 0) 1 8 Try.underlying52 hi hz0 hz1 hz2 rfl (by decide) _ (lvs L k).length _ rfl (hown.alloc _) ⟨wr.heap.size, 0, none⟩ 1 1 [.int .i64 (k : Int)] rfl rfl (new1 wr _ _) (one1 rfl) (by unfold maxLen; omega) (by omega) (by simp; omega) ?_; intro v' w5 hown' hgrow _))
          have hb3 := grown_below (bl_alloc hbw _) (hown.alloc _) (Nat.le_succ _) hgrow
          have hbx3 := cell_grown_own hbx (hown.alloc _) (bl1 _ _) hgrow (by simp)
          clear hgrow
          go_roundw
          case rel => exact ⟨k + 1, by omega, by go_num, lvs_row He.out hown', hb3, hbx3⟩
          case measure => simp [intOf]; omega
      · obtain rfl : k = L.length := by omega
        go_wp2_with fail
        go_ret2
        exact LOut_yes HV.out hown hbw
end Go.Proofs.Ytpbccoobkmahlaa
