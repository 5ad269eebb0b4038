/- Shapes of one node. -/
import Derived.Test.YtpbccoobkmahlaaStepF
namespace Go.Proofs.Ytpbccoobkmahlaa
open Go.Fl Go.RowKit

theorem OwnSh.form {w : World} {lo hi : Nat} {v : Value} {L : List Nd} (h : OwnSh w lo hi v L) : ∃ a c, v = .slice a L.length c := by
  obtain ⟨a, c, e, _⟩ := h.nodes
  exact ⟨a, c, e⟩
set_option maxHeartbeats 2000000 in
set_option maxRecDepth 20000 in
theorem spec_OneNode_any (k : Int) (v : Value) (xs : List Nat) (w : World) (h : FIn w v xs) (hn : xs.length ≤ 1048576) : Calls Try.prog 30 #[.int .i64 k, v] w (SOut w (shV [⟨k, 0, 0, xs⟩]) (valid [⟨k, 0, 0, xs⟩])) := by
  obtain ⟨i0, hi, hz0, hz1, hz2⟩ := info_parts info_f32
  have hb1 := bl2 w (.cells #[.slice none 0 0] 26) (.cells #[] 61)
  have hown := World.ownsRow_made (base := (w.alloc (.cells #[.slice none 0 0] 26)).heap.size) (e := 61) (size := 1) (w.alloc (.cells #[.slice none 0 0] 26)) #[] 0 (Nat.le_refl _) (by decide) (by simp)
  have hA : Bl1 ((w.alloc (.cells #[.slice none 0 0] 26)).alloc (.cells #[] 61)) w.heap.size (.slice none 0 0) := (Below.heap_alloc _ _ _ (by simp)).trans (heap_alloc_new w _)
  obtain ⟨av, cv, rfl, _⟩ := id h
  have H := Lib.hid (h.keep hb1)
  have HO := Lib.hid hown
  have HA := Lib.hid hA
  have HM := Lib.hid (fun (nv : Value) (w1 : World) (hN : NewNum (w.alloc (.cells #[.slice none 0 0] 26)) w1 nv xs) hs => l02Give_any (.slice (some ⟨w1.heap.size, 0, none⟩) 1 1) [⟨k, 0, 0, xs⟩] _ _ _ (OwnSh.one k 0 0 hN hs) (mod_one hn))
  have hA0 := bl1 w (.cells #[.slice none 0 0] 26)
  generalize shV [⟨k, 0, 0, xs⟩] = M at HM ⊢
  generalize valid [⟨k, 0, 0, xs⟩] = b at HM ⊢
  clear h hown hA
  go_enter Try.func30, Try.ntmps30
  go_wp2_with (first | (at_builtin; refine wpList_append_fin (w0 := w.alloc (.cells #[.slice none 0 0] 26)) rfl (.tmp 7) (.tmp 8) rfl i0 hi hz0 hz1 hz2 (.slice (some ⟨w.heap.size + 1, 0, none⟩) 0 0) rfl (by simpa using HO.out) _ rfl xs H.out hn (by simp) ?_; intro nv w1 hN hb2 hg2; obtain ⟨na, nc, hnv, _⟩ := id hN; subst hnv; have hAN := HA.out.grown hg2 (fun r hr => by simp [Value.ownBlock] at hr; omega)) | (go_at_call 70; refine (Calls.mono (by exact HM.out _ _ hN (by have := hb2.size; simp at this ⊢; omega)) ?_); rintro e w2 ⟨u, rfl, hu, hb3⟩; obtain ⟨ua, uc, hue⟩ := hu.form; subst hue; have hA2 := (hAN.keep (bl1 w1 (.cells #[.int .i64 k, .int .i64 0, .int .i64 0, .slice na xs.length nc] 78))).keep hb3; have r0 := hA2.cell; have fr := hA2.frozen))
  refine bodyPost_ret (results_shape rfl _ _ w.heap.size _ rfl (Bl1.set hA2 _)) rfl ?_
  have hz2 := hb2.size
  have hz3 := hb3.size
  simp at hz2 hz3
  refine ⟨_, rfl, OwnSh.mono (hu.low (p := ⟨w.heap.size, 0, none⟩) (by simp) _) (by simp) (by simp [World.setCell]; omega) (Nat.le_refl _), ?_⟩
  exact bl_set (bl_call (bl_call (hb1.trans (hb2.mono (by simp))) (bl1 w1 (.cells #[.int .i64 k, .int .i64 0, .int .i64 0, .slice na xs.length nc] 78))) hb3) (Nat.le_refl _) _
theorem nodes_one (w : World) (k a b : Int) (v : Value) (xs : List Nat) (h : FIn w v xs) : NodesIn (w.alloc (.cells #[.int .i64 k, .int .i64 a, .int .i64 b, v] 78)) (.slice (some ⟨w.heap.size, 0, none⟩) 1 1) [⟨k, a, b, xs⟩] := by
  have hb := heap_alloc_new w (.cells #[.int .i64 k, .int .i64 a, .int .i64 b, v] 78)
  refine ⟨_, 1, rfl, .inr ⟨_, 0, rfl, fun i hi => ?_⟩⟩
  obtain rfl : i = 0 := by simpa using hi
  exact ⟨cell_of_row _ _ 0 _ _ (0, 0) hb, cell_of_row _ _ 1 _ _ (0, 0) hb, cell_of_row _ _ 2 _ _ (0, 0) hb, v, cell_of_row _ _ 3 _ _ (0, 0) hb, h.keep (bl1 w _)⟩
set_option maxHeartbeats 2000000 in
set_option maxRecDepth 20000 in
theorem OneNode_any (k : Int) (v : Value) (xs : List Nat) (w : World) (h : FIn w v xs) (hn : xs.length ≤ 1048576) : Calls Try.prog 32 #[.int .i64 k, v] w (SOut w (shV [⟨k, 0, 0, xs⟩]) (valid [⟨k, 0, 0, xs⟩])) := by
  have hb1 := bl2 w (.cells #[.slice none 0 0] 26) (.cells #[.int .i64 k, .int .i64 0, .int .i64 0, v] 78)
  have hA : Bl1 ((w.alloc (.cells #[.slice none 0 0] 26)).alloc (.cells #[.int .i64 k, .int .i64 0, .int .i64 0, v] 78)) w.heap.size (.slice none 0 0) := (Below.heap_alloc _ _ _ (by simp)).trans (heap_alloc_new w _)
  have hN := nodes_one (w.alloc (.cells #[.slice none 0 0] 26)) k 0 0 v xs (h.keep (bl1 w _))
  have HT := Lib.hid (told_any (.slice (some ⟨w.heap.size + 1, 0, none⟩) 1 1) [⟨k, 0, 0, xs⟩] _ (by simpa using hN) (mod_one hn))
  have HA := Lib.hid hA
  obtain ⟨av, cv, rfl, _⟩ := id h
  generalize shV [⟨k, 0, 0, xs⟩] = M at HT ⊢
  generalize valid [⟨k, 0, 0, xs⟩] = b at HT ⊢
  clear h hA hN
  go_enter Try.func32, Try.ntmps32
  go_wp2_with (go_at_call 52; refine (Calls.mono (by exact HT.out) ?_); rintro e w2 ⟨u, rfl, hu, hb3⟩; obtain ⟨ua, uc, hue⟩ := hu.form; subst hue; have hA2 := HA.out.keep hb3; have r0 := hA2.cell; have fr := hA2.frozen)
  refine bodyPost_ret (results_shape rfl _ _ w.heap.size _ rfl (Bl1.set hA2 _)) rfl ?_
  have hz3 := hb3.size
  simp at hz3
  refine ⟨_, rfl, OwnSh.mono (hu.low (p := ⟨w.heap.size, 0, none⟩) (by simp; omega) _) (by simp; omega) (by simp [World.setCell]) (Nat.le_refl _), ?_⟩
  exact bl_set (bl_call hb1 hb3) (Nat.le_refl _) _
theorem shV_small (L : List Nd) : (shV L).length ≤ 16 ∧ sumX (shV L) ≤ 64 := by
  cases h : valid L
  · rw [shV_no h]; exact ⟨by simp, by simp [sumX]⟩
  · rw [shV_yes h]
    obtain ⟨_, h2, h3, _⟩ := valid_parts h
    have hx : ∀ d ∈ L, d.xs.length ≤ 4 := by
      intro d hd
      obtain ⟨i, hi, rfl⟩ := List.mem_iff_getElem.1 hd
      have hk := okTo_at h3 hi
      have he : at_ L i = L[i] := by simp [at_, hi]
      rw [he] at hk
      simp only [okNd, Bool.and_eq_true, numsB, decide_eq_true_eq] at hk
      have := hk.2.1.1
      have := cnt_le L[i].k
      omega
    have key : ∀ Q : List Nd, (∀ d ∈ Q, d.xs.length ≤ 4) → sumX Q ≤ 4 * Q.length := by
      intro Q
      induction Q with
      | nil => intro _; simp [sumX]
      | cons q r ih =>
        intro hq
        have h1 := hq q (by simp)
        have h2 := ih (fun d hd => hq d (by simp [hd]))
        unfold sumX at h2 ⊢
        simp only [List.map_cons, List.sum_cons, List.length_cons]
        omega
    have := key L hx
    exact ⟨h2, by omega⟩
end Go.Proofs.Ytpbccoobkmahlaa
