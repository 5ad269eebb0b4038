/- PartOf, the reference's and the program's. No conditions but bounds. -/
import Derived.Test.YtpbccoobkmahlaaKeptI
namespace Go.Proofs.Ytpbccoobkmahlaa
open Go.Fl Go.RowKit

set_option maxHeartbeats 16000000 in
set_option maxRecDepth 100000 in
theorem spec_PartOf_any (v : Value) (L : List Nd) (x : Int) (w : World) (h : NodesIn w v L) (hm : Mod L) :
    Calls Try.prog 47 #[.agg #[v], .int .i64 x] w (SOut w (partL L x) (partB L x)) := by
  obtain ⟨av, cv, rfl, _⟩ := id h
  have H := Lib.hid h
  have HM := Lib.hid hm
  have hb0 := bl2 w (.cells #[.slice av L.length cv] 26) (.cells #[.slice none 0 0] 26)
  obtain ⟨hA, hB⟩ := Bl1.two w (.slice av L.length cv) (.slice none 0 0)
  have hbx := hA.cell
  have HA := Lib.hid hA
  have HB := Lib.hid hB
  have hlm := hm.1
  clear h hm hA hB
  cases hV : valid L
  · obtain ⟨e1, e2⟩ := part_no (L := L) (x := x) (fun hh => by rw [hV] at hh; exact absurd hh.1 (by simp))
    rw [e1, e2]
    have HC := Lib.hid (fun W hc hW => l02Is_at hV w.heap.size 0 (.slice av L.length cv) W hc hW HM.out)
    clear hV e1 e2
    go_enter Try.func47, Try.ntmps47
    go_wp2_with (go_at_call 49; refine (Calls.mono (by exact HC.out _ hbx (H.out.keep hb0)) ?_); rintro e w1 ⟨rfl, hb1⟩; have hB1 := HB.out.keep hb1; have r0 := hB1.cell; have fr := hB1.frozen)
    refine bodyPost_ret (results_shape rfl _ _ (w.heap.size + 1) _ rfl (Bl1.set hB1 _)) rfl ?_
    exact ⟨_, rfl, OwnSh.nil _ _ _ (Nat.le_refl _), bl_set (bl_call hb0 hb1) (by show _ ≤ w.heap.size + 1; omega) _⟩
  have HC := Lib.hid (fun W hc hW => l02Is_at hV w.heap.size 0 (.slice av L.length cv) W hc hW HM.out)
  have hl1 := (valid_parts hV).1
  have hl16 := (valid_parts hV).2.1
  cases hI : inB x 0 ((L.length : Int) - 1)
  · obtain ⟨e1, e2⟩ := part_no (L := L) (x := x) (fun hh => by rw [hI] at hh; exact absurd hh.2 (by simp))
    rw [e1, e2]
    have HI := Lib.hid (fun W => l00In_at hI W)
    clear hV e1 e2 hI
    go_enter Try.func47, Try.ntmps47
    go_wp2_with (first | (go_at_call 49; refine (Calls.mono (by exact HC.out _ hbx (H.out.keep hb0)) ?_); rintro e w1 ⟨rfl, hb1⟩; have hB1 := HB.out.keep hb1; have r0 := hB1.cell; have fr := hB1.frozen; have hbx1 := cellk hbx hb1) | (go_at_call 71; refine (Calls.mono (by exact HI.out _) ?_); rintro e w' ⟨rfl, he⟩; subst w'))
    refine bodyPost_ret (results_shape rfl _ _ (w.heap.size + 1) _ rfl (Bl1.set hB1 _)) rfl ?_
    exact ⟨_, rfl, OwnSh.nil _ _ _ (Nat.le_refl _), bl_set (bl_call hb0 hb1) (by show _ ≤ w.heap.size + 1; omega) _⟩
  obtain ⟨n, rfl⟩ : ∃ n : Nat, x = (n : Nat) := ⟨x.toNat, by unfold inB at hI; simp at hI; omega⟩
  have hn : n < L.length := by unfold inB at hI; simp at hI; omega
  obtain ⟨e1, e2⟩ := part_yes hV hI
  rw [e1, e2]
  have HI := Lib.hid (fun W => l00In_at hI W)
  have HBe := Lib.hid (fun W hc hW => l02Below_any w.heap.size n (.slice av L.length cv) L W hc hW hV hn)
  generalize partF L n = F at HBe ⊢
  have HKe := Lib.hid (fun W kv hc hW hF => l02Keep_any w.heap.size (.slice av L.length cv) kv F L W hc hW hV hF)
  generalize (kp L F L.length).2 = M at HKe ⊢
  clear hV e1 e2 hI
  go_enter Try.func47, Try.ntmps47
  go_wp2_with (first | (go_at_call 49; refine (Calls.mono (by exact HC.out _ hbx (H.out.keep hb0)) ?_); rintro e w1 ⟨rfl, hb1⟩; have hbx1 := cellk hbx hb1; have e1 := bl_call hb0 hb1) | (go_at_call 71; refine (Calls.mono (by exact HI.out _) ?_); rintro e w' ⟨rfl, he⟩; subst w') | (go_at_call 78; refine (Calls.mono (by exact HBe.out _ hbx1 (H.out.keep e1)) ?_); rintro e w2 ⟨u2, rfl, hF2, hb2⟩; have hbx2 := cellk hbx1 hb2; have e2 := bl_call e1 hb2) | (go_at_call 77; refine (Calls.mono (by exact HKe.out _ _ hbx2 (H.out.keep e2) hF2) ?_); rintro e w3 ⟨u3, rfl, hu3, hb3⟩; obtain ⟨a3, n3, hu3'⟩ := hu3.form; subst hu3'; have hB3 := ((HB.out.keep hb1).keep hb2).keep hb3; have r0 := hB3.cell; have fr := hB3.frozen))
  refine bodyPost_ret (results_shape rfl _ _ (w.heap.size + 1) _ rfl (Bl1.set hB3 _)) rfl ?_
  have hs2 : w.heap.size + 1 < w2.heap.size := by have := hb1.size; have := hb2.size; simp at *; omega
  exact ⟨_, rfl, OwnSh.mono (hu3.low (p := ⟨w.heap.size + 1, 0, none⟩) (by show w.heap.size + 1 < w2.heap.size; exact hs2) _) (by omega) (by simp [World.setCell]) (Nat.le_refl _), bl_set (bl_call e2 hb3) (by show _ ≤ w.heap.size + 1; omega) _⟩
set_option maxHeartbeats 16000000 in
set_option maxRecDepth 100000 in
theorem PartOf_any (v : Value) (L : List Nd) (x : Int) (w : World) (h : NodesIn w v L) (hm : Mod L) :
    Calls Try.prog 48 #[.agg #[v], .int .i64 x] w (SOut w (partL L x) (partB L x)) := by
  obtain ⟨av, cv, rfl, _⟩ := id h
  have H := Lib.hid h
  have HM := Lib.hid hm
  have hb0 := bl2 w (.cells #[.slice av L.length cv] 26) (.cells #[.slice none 0 0] 26)
  obtain ⟨hA, hB⟩ := Bl1.two w (.slice av L.length cv) (.slice none 0 0)
  have hbx := hA.cell
  have HA := Lib.hid hA
  have HB := Lib.hid hB
  have hlm := hm.1
  clear h hm hA hB
  cases hV : valid L
  · obtain ⟨e1, e2⟩ := part_no (L := L) (x := x) (fun hh => by rw [hV] at hh; exact absurd hh.1 (by simp))
    rw [e1, e2]
    have HC := Lib.hid (fun W hW => ValidShape_at hV (.slice av L.length cv) W hW HM.out)
    clear hV e1 e2
    go_enter Try.func48, Try.ntmps48
    go_wp2_with (go_at_call 27; refine (Calls.mono (by exact HC.out _ (H.out.keep hb0)) ?_); rintro e w1 ⟨rfl, hb1⟩; have hB1 := HB.out.keep hb1; have r0 := hB1.cell; have fr := hB1.frozen)
    refine bodyPost_ret (results_shape rfl _ _ (w.heap.size + 1) _ rfl (Bl1.set hB1 _)) rfl ?_
    exact ⟨_, rfl, OwnSh.nil _ _ _ (Nat.le_refl _), bl_set (bl_call hb0 hb1) (by show _ ≤ w.heap.size + 1; omega) _⟩
  have HC := Lib.hid (fun W hW => ValidShape_at hV (.slice av L.length cv) W hW HM.out)
  have hl1 := (valid_parts hV).1
  have hl16 := (valid_parts hV).2.1
  cases hI : inB x 0 ((L.length : Int) - 1)
  · obtain ⟨e1, e2⟩ := part_no (L := L) (x := x) (fun hh => by rw [hI] at hh; exact absurd hh.2 (by simp))
    rw [e1, e2]
    have HI := Lib.hid (fun W => in_at hI W)
    clear hV e1 e2 hI
    go_enter Try.func48, Try.ntmps48
    go_wp2_with (first | (go_at_call 27; refine (Calls.mono (by exact HC.out _ (H.out.keep hb0)) ?_); rintro e w1 ⟨rfl, hb1⟩; have hB1 := HB.out.keep hb1; have r0 := hB1.cell; have fr := hB1.frozen; have hbx1 := cellk hbx hb1) | (go_at_call 69; refine (Calls.mono (by exact last_any w.heap.size av L.length cv _ hbx1 (by omega)) ?_); rintro e w' ⟨rfl, he⟩; subst w') | (go_at_call 51; refine (Calls.mono (by exact HI.out _) ?_); rintro e w' ⟨rfl, he⟩; subst w'))
    refine bodyPost_ret (results_shape rfl _ _ (w.heap.size + 1) _ rfl (Bl1.set hB1 _)) rfl ?_
    exact ⟨_, rfl, OwnSh.nil _ _ _ (Nat.le_refl _), bl_set (bl_call hb0 hb1) (by show _ ≤ w.heap.size + 1; omega) _⟩
  obtain ⟨n, rfl⟩ : ∃ n : Nat, x = (n : Nat) := ⟨x.toNat, by unfold inB at hI; simp at hI; omega⟩
  have hn : n < L.length := by unfold inB at hI; simp at hI; omega
  obtain ⟨e1, e2⟩ := part_yes hV hI
  rw [e1, e2]
  have HI := Lib.hid (fun W => in_at hI W)
  have HBe := Lib.hid (fun W hc hW => below_any w.heap.size n (.slice av L.length cv) L W hc hW hV hn)
  generalize partF L n = F at HBe ⊢
  have HKe := Lib.hid (fun W kv hc hW hF => kept_any w.heap.size (.slice av L.length cv) kv F L W hc hW hV hF)
  generalize (kp L F L.length).2 = M at HKe ⊢
  clear hV e1 e2 hI
  go_enter Try.func48, Try.ntmps48
  go_wp2_with (first | (go_at_call 27; refine (Calls.mono (by exact HC.out _ (H.out.keep hb0)) ?_); rintro e w1 ⟨rfl, hb1⟩; have hbx1 := cellk hbx hb1; have e1 := bl_call hb0 hb1) | (go_at_call 69; refine (Calls.mono (by exact last_any w.heap.size av L.length cv _ hbx1 (by omega)) ?_); rintro e w' ⟨rfl, he⟩; subst w') | (go_at_call 51; refine (Calls.mono (by exact HI.out _) ?_); rintro e w' ⟨rfl, he⟩; subst w') | (go_at_call 80; refine (Calls.mono (by exact HBe.out _ hbx1 (H.out.keep e1)) ?_); rintro e w2 ⟨u2, rfl, hF2, hb2⟩; have hbx2 := cellk hbx1 hb2; have e2 := bl_call e1 hb2) | (go_at_call 79; refine (Calls.mono (by exact HKe.out _ _ hbx2 (H.out.keep e2) hF2) ?_); rintro e w3 ⟨u3, rfl, hu3, hb3⟩; obtain ⟨a3, n3, hu3'⟩ := hu3.form; subst hu3'; have hB3 := ((HB.out.keep hb1).keep hb2).keep hb3; have r0 := hB3.cell; have fr := hB3.frozen))
  refine bodyPost_ret (results_shape rfl _ _ (w.heap.size + 1) _ rfl (Bl1.set hB3 _)) rfl ?_
  have hs2 : w.heap.size + 1 < w2.heap.size := by have := hb1.size; have := hb2.size; simp at *; omega
  exact ⟨_, rfl, OwnSh.mono (hu3.low (p := ⟨w.heap.size + 1, 0, none⟩) (by show w.heap.size + 1 < w2.heap.size; exact hs2) _) (by omega) (by simp [World.setCell]) (Nat.le_refl _), bl_set (bl_call e2 hb3) (by show _ ≤ w.heap.size + 1; omega) _⟩
end Go.Proofs.Ytpbccoobkmahlaa
