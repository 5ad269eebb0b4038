/- The program's WrapShape. No conditions but bounds. -/
import Derived.Test.YtpbccoobkmahlaaGathN
namespace Go.Proofs.Ytpbccoobkmahlaa
open Go.Fl Go.RowKit

set_option maxHeartbeats 16000000 in
set_option maxRecDepth 100000 in
theorem WrapShape_any (k x : Int) (v u : Value) (L : List Nd) (xs : List Nat) (w : World) (h : NodesIn w v L) (hm : Mod L) (hu : NumV w u xs) (hn : xs.length ≤ 1048576) :
    Calls Try.prog 41 #[.int .i64 k, .agg #[v], .int .i64 x, u] w (SOut w (wrapL k L x xs) (wrapB k L x xs)) := by
  obtain ⟨j0, hj, hy0, hy1, hy2⟩ := info_parts info_nd
  obtain ⟨av, cv, rfl, _⟩ := id h
  obtain ⟨au, cu, rfl, _⟩ := id hu.fin
  have H := Lib.hid h
  have HU := Lib.hid hu
  have HM := Lib.hid hm
  have hb0 := bl2 w (.cells #[.slice av L.length cv] 26) (.cells #[.slice none 0 0] 26)
  obtain ⟨hA, hB⟩ := Bl1.two w (.slice av L.length cv) (.slice none 0 0)
  have HA := Lib.hid hA
  have HB := Lib.hid hB
  have hlm := hm.1
  clear h hu hm hA hB
  cases hO : okK k
  · have hK0 : ¬ kidsK k ≠ 0 := fun hh => by rw [ok_kids hh] at hO; cases hO
    obtain ⟨e1, e2⟩ := wrap_no (k := k) (x := x) (L := L) (xs := xs) (fun hh => by omega)
    rw [e1, e2]
    have HR := Lib.hid (fun W => rule_of (k := k) (K := kidsK k) rfl hO W)
    generalize kidsK k = K at HR
    clear hK0 hO e1 e2
    go_enter Try.func41, Try.ntmps41
    go_wp2_with (go_at_call 73; refine (Calls.mono (by exact HR.out _) ?_); rintro e w1 ⟨rfl, hb1⟩; have hb2 := bl_alloc hb1 (.cells #[.int .i64 (cntK k : Nat), .int .i64 (K : Nat), .bool (axK k), .int .i64 (sgK k : Nat)] 93); have hB1 := HB.out.keep hb2; have r0 := hB1.cell; have fr := hB1.frozen)
    refine bodyPost_ret (results_shape rfl _ _ (w.heap.size + 1) _ rfl (Bl1.set hB1 _)) rfl ?_
    exact ⟨_, rfl, OwnSh.nil _ _ _ (Nat.le_refl _), bl_set (bl_call hb0 hb2) (by show _ ≤ w.heap.size + 1; omega) _⟩
  by_cases hK : kidsK k = 1
  rotate_left
  · obtain ⟨e1, e2⟩ := wrap_no (k := k) (x := x) (L := L) (xs := xs) (fun hh => hK hh.2)
    rw [e1, e2]
    have HR := Lib.hid (fun W => rule_of (k := k) (K := kidsK k) rfl hO W)
    have hne : (((kidsK k : Nat) : Int) != 1) = true := by simp; omega
    generalize kidsK k = K at HR hne
    clear hO e1 e2 hK
    go_enter Try.func41, Try.ntmps41
    go_wp2_with (go_at_call 73; refine (Calls.mono (by exact HR.out _) ?_); rintro e w1 ⟨rfl, hb1⟩; have hb2 := bl_alloc hb1 (.cells #[.int .i64 (cntK k : Nat), .int .i64 (K : Nat), .bool (axK k), .int .i64 (sgK k : Nat)] 93); have hB1 := HB.out.keep hb2; have r0 := hB1.cell; have fr := hB1.frozen; obtain ⟨q0, q1, q2⟩ := box4c w1 (.int .i64 (cntK k : Nat)) (.int .i64 (K : Nat)) (.bool (axK k)) (.int .i64 (sgK k : Nat)) 93)
    refine bodyPost_ret (results_shape rfl _ _ (w.heap.size + 1) _ rfl (Bl1.set hB1 _)) rfl ?_
    exact ⟨_, rfl, OwnSh.nil _ _ _ (Nat.le_refl _), bl_set (bl_call hb0 hb2) (by show _ ≤ w.heap.size + 1; omega) _⟩
  have HR := Lib.hid (fun W => rule_of (k := k) (K := 1) hK hO W)
  cases hV : valid L
  · obtain ⟨e1, e2⟩ := wrap_no (k := k) (x := x) (L := L) (xs := xs) (fun hh => by rw [hV] at hh; exact absurd hh.1 (by simp))
    rw [e1, e2]
    have HC := Lib.hid (fun W hW => ValidShape_at hV (.slice av L.length cv) W hW HM.out)
    clear hV e1 e2 hK hO
    go_enter Try.func41, Try.ntmps41
    go_wp2_with (first | (go_at_call 73; refine (Calls.mono (by exact HR.out _) ?_); rintro e w1 ⟨rfl, hb1⟩; have hb2 := bl_alloc hb1 (.cells #[.int .i64 (cntK k : Nat), .int .i64 1, .bool (axK k), .int .i64 (sgK k : Nat)] 93); have hA1 := (HA.out.keep hb2).cell; have hB1 := HB.out.keep hb2; obtain ⟨q0, q1, q2⟩ := box4c w1 (.int .i64 (cntK k : Nat)) (.int .i64 1) (.bool (axK k)) (.int .i64 (sgK k : Nat)) 93) | (go_at_call 27; refine (Calls.mono (by exact HC.out _ ((H.out.keep hb0).keep hb2)) ?_); rintro e w2 ⟨rfl, hb3⟩; have hB2 := hB1.keep hb3; have r0 := hB2.cell; have fr := hB2.frozen))
    refine bodyPost_ret (results_shape rfl _ _ (w.heap.size + 1) _ rfl (Bl1.set hB2 _)) rfl ?_
    exact ⟨_, rfl, OwnSh.nil _ _ _ (Nat.le_refl _), bl_set (bl_call (bl_call hb0 hb2) hb3) (by show _ ≤ w.heap.size + 1; omega) _⟩
  obtain ⟨e1, e2⟩ := wrap_yes (k := k) (x := x) (xs := xs) hV hK
  rw [e1, e2]
  have HC := Lib.hid (fun W hW => ValidShape_at hV (.slice av L.length cv) W hW HM.out)
  have hl16 := (valid_parts hV).2.1
  have HK := Lib.hid (fun W hW => cloneShape_any (.slice av L.length cv) L W hW HM.out)
  have HT := Lib.hid (fun v' W hW => told_any v' (wrapN k L x xs) W hW (mod_snoc HM.out (by omega) hn))
  have HN := Lib.hid (show wrapN k L x xs = L ++ [⟨k, (L.length : Int) - 1, x, xs⟩] from rfl)
  have HNL := Lib.hid (show (wrapN k L x xs).length = L.length + 1 by simp [wrapN])
  generalize wrapN k L x xs = L' at HT HN HNL ⊢
  clear hV e1 e2 hK hO
  go_enter Try.func41, Try.ntmps41
  go_wp2_with (first | (go_at_call 73; refine (Calls.mono (by exact HR.out _) ?_); rintro e w1 ⟨rfl, hb1⟩; have hb2 := bl_alloc hb1 (.cells #[.int .i64 (cntK k : Nat), .int .i64 1, .bool (axK k), .int .i64 (sgK k : Nat)] 93); have hA1 := HA.out.keep hb2; have a1 := hA1.cell; have hB1 := HB.out.keep hb2; obtain ⟨q0, q1, q2⟩ := box4c w1 (.int .i64 (cntK k : Nat)) (.int .i64 1) (.bool (axK k)) (.int .i64 (sgK k : Nat)) 93) | (go_at_call 27; refine (Calls.mono (by exact HC.out _ ((H.out.keep hb0).keep hb2)) ?_); rintro e w2 ⟨rfl, hb3⟩; have hA2 := hA1.keep hb3; have a2 := hA2.cell; have hB2 := hB1.keep hb3; have e2 := bl_call (bl_call hb0 hb2) hb3) | (go_at_call 74; refine (Calls.mono (by exact HK.out _ (H.out.keep e2)) ?_); rintro e w3 ⟨u3, rfl, hG3, hb4⟩; obtain ⟨a3, n3, hu3⟩ := hG3.form; subst hu3; have hA3 := hA2.keep hb4; have hB3 := hB2.keep hb4; have hb5 := bl1 w3 (.cells #[.slice a3 L.length n3] 26); have hO4 := Bl1.new w3 (.slice a3 L.length n3); have hA4 := hA3.keep hb5; have hB4 := hB3.keep hb5; have e4 := bl_call (bl_call e2 hb4) hb5))
  have hzz : w.heap.size + 1 < w2.heap.size := by
    have q1 := hb2.size
    have q2 := hb3.size
    simp at q1 q2
    omega
  have hz3 := hb4.size
  have hG4 : GathN (w3.alloc (.cells #[.slice a3 L.length n3] 26)) w2.heap.size (.slice a3 L.length n3) L := (GathN.of hG3).keep hb5
  have hU4 := HU.out.keep e4
  have hs4 : w3.heap.size < (w3.alloc (.cells #[.slice a3 L.length n3] 26)).heap.size := by simp
  have hr3 : ∀ r, (Value.slice a3 L.length n3).ownBlock = some r → r < w3.heap.size := fun r hr => ((GathN.of hG3).block r hr).2
  clear hb2 hb3 hb4 hb5 hA1 hA2 hA3 hB1 hB2 hB3 a1 a2 q0 q1 q2 hG3
  generalize w3.alloc (.cells #[.slice a3 L.length n3] 26) = w4 at *
  have hbn := bl1 w4.drew (.cells #[.int .i64 k, .int .i64 ((L.length : Int) - 1), .int .i64 x, .slice au xs.length cu] 78)
  have hGd : GathN w4.drew w2.heap.size (.slice a3 L.length n3) L := hG4
  have hUd : NumV w4.drew (.slice au xs.length cu) xs := hU4
  have hOd : Bl1 w4.drew w3.heap.size (.slice a3 L.length n3) := hO4
  have hGn := hGd.keep hbn
  have hUn := hUd.keep hbn
  have hOn := hOd.keep hbn
  have a4 : w4.drew.cell? ⟨w.heap.size, 0, none⟩ = some (.slice av L.length cv) := hA4.cell
  have o4 := hO4.cell
  have on := hOn.cell
  obtain ⟨xs5, hrow, hpush⟩ := hGn.push (d := ⟨k, (L.length : Int) - 1, x, xs⟩) hUn
  have HGn := Lib.hid hGn
  have HBd := Lib.hid (show Bl1 w4.drew (w.heap.size + 1) (.slice none 0 0) from hB4)
  have HOn := Lib.hid hOn
  clear hG4 hU4 hO4 hA4 hB4 hGd hUd hOd hGn hUn hOn
  go_region_law (first | (refine step_append_lies _ rfl (.tmp 34) (.tmp 40) 24 rfl w2.heap.size 78 j0 _ 4 48 Try.underlying24 hj hy0 hy1 hy2 rfl (by decide) (.slice a3 L.length n3) L.length _ (by simp [Act.eval]) hrow ⟨w4.heap.size, 0, none⟩ 1 1 [.int .i64 k, .int .i64 ((L.length : Int) - 1), .int .i64 x, .slice au xs.length cu] (by simp [Act.eval]) rfl (news4 (heap_alloc_new _ _)) (by simp [Value.oneCell']) (by decide) (by unfold maxLen; omega) (by omega) (by simp; omega) _ rfl ?_; intro g5 c5 w5 hown5 hgrow5 _ _; have hG5 := hpush _ _ hown5 hgrow5; have hO5 := HOn.out.grown hgrow5 (fun r hr => by have := hr3 r hr; omega); have o5 := hO5.cell; have f5 := hO5.frozen; clear hown5) | (go_simp; go_at_call 69; refine (Calls.mono (by exact last_any w.heap.size av L.length cv _ a4 (by omega)) ?_); rintro e w' ⟨rfl, he⟩; subst w'))
  all_goals have hG6 := hG5.set1 hO5 (.slice (some ⟨g5, 0, none⟩) (L.length + 1) c5)
  all_goals have hB6 := ((HBd.out.keep hbn).grown hgrow5 (fun r hr => by have := (HGn.out.block r hr).1; omega)).far (p := ⟨w3.heap.size, 0, none⟩) (by show w.heap.size + 1 ≠ w3.heap.size; omega) (.slice (some ⟨g5, 0, none⟩) (L.length + 1) c5)
  all_goals have b5 : Below w.heap.size w w5 := (bl_alloc (bl_drew e4) _).grown hgrow5 (by have := e4.size; simp; omega) (fun r hr => by have := (HGn.out.block r hr).1; omega)
  all_goals have b6 := bl_set b5 (a := ⟨w3.heap.size, 0, none⟩) (by show w.heap.size ≤ w3.heap.size; omega) (.slice (some ⟨g5, 0, none⟩) (L.length + 1) c5)
  all_goals have HN6 := Lib.hid hG6.nodes
  all_goals have HB6 := Lib.hid hB6
  all_goals have o6 := (Bl1.set hO5 (.slice (some ⟨g5, 0, none⟩) (L.length + 1) c5)).cell
  all_goals clear hG6 hG5 hO5 f5 hB6
  all_goals go_wp2_with (go_at_call 52; refine (Calls.mono (by exact HT.out _ _ (by rw [HN.out]; exact HN6.out)) ?_); rintro e w7 ⟨u7, rfl, hu7, hb7⟩; obtain ⟨a7, n7, hu7'⟩ := hu7.form; subst hu7'; have hB7 := HB6.out.keep hb7; have r0 := hB7.cell; have fr := hB7.frozen)
  all_goals refine bodyPost_ret (results_shape rfl _ _ (w.heap.size + 1) _ rfl (Bl1.set hB7 _)) rfl ?_
  all_goals refine ⟨_, rfl, OwnSh.mono (hu7.low (p := ⟨w.heap.size + 1, 0, none⟩) (by show w.heap.size + 1 < _; have := World.block_lt_of_cell? _ _ HB6.out.cell; exact this) _) b6.size (by simp [World.setCell]) (Nat.le_refl _), bl_set (bl_call b6 hb7) (by show _ ≤ w.heap.size + 1; omega) _⟩
end Go.Proofs.Ytpbccoobkmahlaa
