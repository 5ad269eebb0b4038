/- The reference's WrapShape. No conditions but bounds. -/
import Derived.Test.YtpbccoobkmahlaaPut
namespace Go.Proofs.Ytpbccoobkmahlaa
open Go.Fl Go.RowKit

/-- The nodes of a shape of which a node of a kind is made, and whether there is one. -/
def wrapN (k : Int) (L : List Nd) (x : Int) (xs : List Nat) : List Nd := L ++ [⟨k, (L.length : Int) - 1, x, xs⟩]
def wrapL (k : Int) (L : List Nd) (x : Int) (xs : List Nat) : List Nd := if valid L = true ∧ kidsK k = 1 then shV (wrapN k L x xs) else []
def wrapB (k : Int) (L : List Nd) (x : Int) (xs : List Nat) : Bool := if valid L = true ∧ kidsK k = 1 then valid (wrapN k L x xs) else false
theorem wrap_no {k x : Int} {L : List Nd} {xs : List Nat} (h : ¬ (valid L = true ∧ kidsK k = 1)) : wrapL k L x xs = [] ∧ wrapB k L x xs = false := by unfold wrapL wrapB; rw [if_neg h, if_neg h]; exact ⟨rfl, rfl⟩
theorem wrap_yes {k x : Int} {L : List Nd} {xs : List Nat} (h : valid L = true) (hk : kidsK k = 1) : wrapL k L x xs = shV (wrapN k L x xs) ∧ wrapB k L x xs = valid (wrapN k L x xs) := by unfold wrapL wrapB; rw [if_pos ⟨h, hk⟩, if_pos ⟨h, hk⟩]; exact ⟨rfl, rfl⟩
theorem one_kids (k : Int) : inB k 9 16 = decide (kidsK k = 1) := by
  unfold inB kidsK
  by_cases h1 : 5 ≤ k ∧ k ≤ 8
  · rw [if_pos h1]; simp; omega
  · rw [if_neg h1]
    by_cases h2 : 9 ≤ k ∧ k ≤ 16
    · rw [if_pos h2]; simp; omega
    · rw [if_neg h2]; simp; omega
theorem sh_zero (L : List Nd) : L.map (shN 0) = L := by
  have : ∀ d : Nd, shN 0 d = d := by intro d; simp [shN]
  induction L with
  | nil => rfl
  | cons d r ih => rw [List.map_cons, this, ih]
theorem mod_snoc {L : List Nd} {d : Nd} (h : Mod L) (hl : L.length ≤ 64) (hd : d.xs.length ≤ 1048576) : Mod (L ++ [d]) := by
  refine ⟨by simp; omega, fun e he => ?_⟩
  rcases List.mem_append.1 he with he | he
  · exact h.2 e he
  · obtain rfl := List.mem_singleton.1 he
    exact hd
/-- The node that a give adds lies ready: the row to which it is added, and what is given. -/
theorem Bl1.two (w : World) (x y : Value) : Bl1 ((w.alloc (.cells #[x] 26)).alloc (.cells #[y] 26)) w.heap.size x ∧ Bl1 ((w.alloc (.cells #[x] 26)).alloc (.cells #[y] 26)) (w.heap.size + 1) y := by
  refine ⟨(Below.heap_alloc _ _ _ (by simp)).trans (heap_alloc_new w _), ?_⟩
  have e : w.heap.size + 1 = (w.alloc (.cells #[x] 26)).heap.size := by simp
  rw [e]; exact heap_alloc_new _ _
set_option maxHeartbeats 16000000 in
set_option maxRecDepth 100000 in
theorem spec_WrapShape_any (k x : Int) (v u : Value) (L : List Nd) (xs : List Nat) (w : World) (h : NodesIn w v L) (hm : Mod L) (hu : FIn w u xs) (hn : xs.length ≤ 1048576) :
    Calls Try.prog 40 #[.int .i64 k, .agg #[v], .int .i64 x, u] w (SOut w (wrapL k L x xs) (wrapB k L x xs)) := by
  obtain ⟨i0, hi, hz0, hz1, hz2⟩ := info_parts info_f32
  obtain ⟨j0, hj, hy0, hy1, hy2⟩ := info_parts info_nd
  obtain ⟨av, cv, rfl, _⟩ := id h
  obtain ⟨au, cu, rfl, _⟩ := id hu
  have H := Lib.hid h
  have HU := Lib.hid hu
  have HM := Lib.hid hm
  have hb0 := bl2 w (.cells #[.slice av L.length cv] 26) (.cells #[.slice none 0 0] 26)
  obtain ⟨hA, hB⟩ := Bl1.two w (.slice av L.length cv) (.slice none 0 0)
  have hbx := hA.cell
  have HA := Lib.hid hA
  have HB := Lib.hid hB
  have hlm := hm.1
  clear h hu hm hA hB
  cases hV : valid L
  · obtain ⟨e1, e2⟩ := wrap_no (k := k) (x := x) (xs := xs) (fun hh => by rw [hV] at hh; exact absurd hh.1 (by simp))
    rw [e1, e2]
    have HC := Lib.hid (fun W hc hW => l02Is_at hV w.heap.size 0 (.slice av L.length cv) W hc hW HM.out)
    clear hV e1 e2
    go_enter Try.func40, Try.ntmps40
    go_wp2_with (go_at_call 49; refine (Calls.mono (by exact HC.out _ hbx (H.out.keep hb0)) ?_); rintro e w1 ⟨rfl, hb1⟩; have hB1 := HB.out.keep hb1; have r0 := hB1.cell; have fr := hB1.frozen)
    refine bodyPost_ret (results_shape rfl _ _ (w.heap.size + 1) _ rfl (Bl1.set hB1 _)) rfl ?_
    exact ⟨_, rfl, OwnSh.nil _ _ _ (Nat.le_refl _), bl_set (bl_call hb0 hb1) (by show _ ≤ w.heap.size + 1; omega) _⟩
  have HC := Lib.hid (fun W hc hW => l02Is_at hV w.heap.size 0 (.slice av L.length cv) W hc hW HM.out)
  by_cases hK : kidsK k = 1
  rotate_left
  · obtain ⟨e1, e2⟩ := wrap_no (k := k) (x := x) (L := L) (xs := xs) (fun hh => hK hh.2)
    rw [e1, e2]
    have HI := Lib.hid (fun W => l00In_at (show inB k 9 16 = false by rw [one_kids]; simpa using hK) W)
    clear hV e1 e2 hK
    go_enter Try.func40, Try.ntmps40
    go_wp2_with (first | (go_at_call 49; refine (Calls.mono (by exact HC.out _ hbx (H.out.keep hb0)) ?_); rintro e w1 ⟨rfl, hb1⟩; have hB1 := HB.out.keep hb1; have r0 := hB1.cell; have fr := hB1.frozen) | (go_at_call 71; refine (Calls.mono (by exact HI.out _) ?_); rintro e w' ⟨rfl, he⟩; subst w'))
    refine bodyPost_ret (results_shape rfl _ _ (w.heap.size + 1) _ rfl (Bl1.set hB1 _)) rfl ?_
    exact ⟨_, rfl, OwnSh.nil _ _ _ (Nat.le_refl _), bl_set (bl_call hb0 hb1) (by show _ ≤ w.heap.size + 1; omega) _⟩
  obtain ⟨e1, e2⟩ := wrap_yes (k := k) (x := x) (xs := xs) hV hK
  rw [e1, e2]
  have HI := Lib.hid (fun W => l00In_at (show inB k 9 16 = true by rw [one_kids]; simpa using hK) W)
  have hl16 := (valid_parts hV).2.1
  have HP := Lib.hid (fun (w1 : World) (u : Value) W hc (hW : NodesIn w1 (.slice av L.length cv) L) h0 hg => by
    have := l02Put_any w.heap.size 0 (.slice av L.length cv) u L [] w1 W hc hW hV h0 hg (by simp) (by omega)
    rw [sh_zero, List.nil_append] at this
    exact this)
  have HG := Lib.hid (fun v' lo hi' W hW => l02Give_any v' (wrapN k L x xs) lo hi' W hW (mod_snoc HM.out (by omega) hn))
  have HN := Lib.hid (show wrapN k L x xs = L ++ [⟨k, (L.length : Int) - 1, x, xs⟩] from rfl)
  generalize wrapN k L x xs = L' at HG HN ⊢
  clear hV e1 e2 hK
  go_enter Try.func40, Try.ntmps40
  go_wp2_with (first | (go_at_call 49; refine (Calls.mono (by exact HC.out _ hbx (H.out.keep hb0)) ?_); rintro e w1 ⟨rfl, hb1⟩; have hbx1 := cellk hbx hb1; have hE := Gath.nil (World.ownsRow_made (base := w1.heap.size) (e := 78) (size := 4) w1 #[] 0 (Nat.le_refl _) (by decide) (by simp)); have hb2 := bl1 w1 (.cells #[] 78)) | (go_at_call 71; refine (Calls.mono (by exact HI.out _) ?_); rintro e w' ⟨rfl, he⟩; subst w') | (go_at_call 72; refine (Calls.mono (by exact HP.out w1 _ _ hbx1 ((H.out.keep hb0).keep hb1) hb2 hE) ?_); rintro e w3 ⟨u3, rfl, hG3, hb3⟩; obtain ⟨a3, n3, hu3⟩ := hG3.form; subst hu3; have hz1' := hb1.size; have hz3 := hb3.size; have bw3 := bl_call (bl_call hb0 hb1) hb3) | (at_builtin; refine wpList_append_fin (w0 := w3) rfl (.tmp 27) (.tmp 28) rfl i0 hi hz0 hz1 hz2 (.slice (some ⟨w3.heap.size, 0, none⟩) 0 0) rfl (World.ownsRow_made w3 #[] 0 (Nat.le_refl _) (by decide) (by simp)) (.slice au xs.length cu) rfl xs (HU.out.keep (bl_alloc bw3 _)) hn (by simp) ?_; intro nv2 w4 hN hb4 hg4; obtain ⟨na, nc, hnv, _⟩ := id hN; subst hnv; have hz4 := hb4.size) | (at_builtin; have hb7 : Below w3.heap.size w3 (w4.alloc (.cells #[.int .i64 k, .int .i64 ((L.length : Int) - 1), .int .i64 x, .slice na xs.length nc] 78)) := bl_alloc ((bl1 w3 _).trans hb4) _; obtain ⟨xs5, hrow, hpush⟩ := hG3.push hb7 (d := ⟨k, (L.length : Int) - 1, x, xs⟩) (hN.keep (bl1 w4 _)) hz3; refine wpList_append_lies _ rfl (.tmp 21) (.tmp 31) 24 rfl w1.heap.size 78 j0 _ 4 48 Try.underlying24 hj hy0 hy1 hy2 rfl (by decide) (.slice a3 L.length n3) L.length xs5 rfl hrow ⟨w4.heap.size, 0, none⟩ 1 1 [.int .i64 k, .int .i64 ((L.length : Int) - 1), .int .i64 x, .slice na xs.length nc] rfl rfl (news4 (heap_alloc_new _ _)) (by simp [Value.oneCell']) (by decide) (by unfold maxLen; omega) (by omega) (by simp at hz4 ⊢; omega) _ rfl ?_; intro g5 c5 w5 hown5 hgrow5 _ _; have hG5 := hpush _ _ hown5 hgrow5; have hB5 := (((HB.out.keep hb1).keep hb3).keep hb7).grown hgrow5 (fun r hr => by have := hG3.block r hr; simp at hz1'; omega); have bw5 : Below w.heap.size w w5 := (bw3.trans (hb7.mono bw3.size)).grown hgrow5 (by simp at hz4 ⊢; have := bw3.size; omega) (fun r hr => by have := hG3.block r hr; simp at hz1'; omega)) | (go_at_call 70; refine (Calls.mono (by exact HG.out _ _ _ _ (by rw [HN.out]; exact hG5.own)) ?_); rintro e w6 ⟨u6, rfl, hu6, hb6⟩; obtain ⟨a6, n6, hu6'⟩ := hu6.form; subst hu6'; have hB6 := hB5.keep hb6; have r0 := hB6.cell; have fr := hB6.frozen))
  refine bodyPost_ret (results_shape rfl _ _ (w.heap.size + 1) _ rfl (Bl1.set hB6 _)) rfl ?_
  simp at hz1'
  refine ⟨_, rfl, OwnSh.mono (hu6.low (p := ⟨w.heap.size + 1, 0, none⟩) (by show w.heap.size + 1 < w1.heap.size; omega) _) (by omega) (by simp [World.setCell]; exact hb6.size) (Nat.le_refl _), bl_set (bl_call bw5 hb6) (by show _ ≤ w.heap.size + 1; omega) _⟩
end Go.Proofs.Ytpbccoobkmahlaa
