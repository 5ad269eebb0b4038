/- The program's UnionOf. No conditions but bounds. -/
import Derived.Test.YtpbccoobkmahlaaUnG
namespace Go.Proofs.Ytpbccoobkmahlaa
open Go.Fl Go.RowKit

set_option maxHeartbeats 16000000 in
set_option maxRecDepth 100000 in
theorem UnionOf_any (v : Value) (LL : List (List Nd)) (w : World) (h : ShR w v LL) (hn : totS LL ≤ 1048576) :
    Calls Try.prog 16 #[v] w (SOut w (unionL LL) (unionB LL)) := by
  have hlen : LL.length ≤ 1048576 := by unfold totS at hn; omega
  obtain ⟨g, f, rfl, hr⟩ := h
  have H := Lib.hid hr
  have HT := Lib.hid hn
  have hb0 := bl1 w (.cells #[.slice none 0 0] 26)
  have hR := Bl1.new w (.slice none 0 0)
  have HR := Lib.hid hR
  clear hr hn hR
  cases hI : inB (LL.length : Int) 1 16
  · obtain ⟨e1, e2⟩ := union_no (LL := LL) (fun hh => by unfold inB at hI; simp at hI; omega)
    rw [e1, e2]
    have HI := Lib.hid (fun W => in_at hI W)
    clear e1 e2 hI
    go_enter Try.func16, Try.ntmps16
    go_wp2_with (go_at_call 51; refine (Calls.mono (by exact HI.out _) ?_); rintro e w' ⟨rfl, he⟩; subst w')
    refine bodyPost_ret (results_shape rfl _ _ w.heap.size _ rfl HR.out) rfl ?_
    exact ⟨_, rfl, OwnSh.nil _ _ _ (Nat.le_refl _), hb0⟩
  obtain ⟨h1, h2⟩ : 1 ≤ LL.length ∧ LL.length ≤ 16 := by unfold inB at hI; simp at hI; omega
  have hp : 0 < LL.length := h1
  have HI := Lib.hid (fun W => in_at hI W)
  obtain ⟨hc0, lo0, hi0, hS0⟩ := H.out 0 (by omega)
  obtain ⟨L0, hL0⟩ : ∃ L, sh_ LL 0 = L := ⟨_, rfl⟩
  have hT0 := totS_at HT.out (by omega) hL0
  rw [hL0] at hS0
  obtain ⟨s0, hs0⟩ : ∃ s, f 0 = s := ⟨_, rfl⟩
  rw [hs0] at hc0 hS0
  obtain ⟨a0, n0, rfl⟩ := hS0.form
  have hk0 := cellk hc0 hb0
  have HN0 := Lib.hid (hS0.nodes.keep hb0)
  obtain ⟨A0, hA0⟩ : ∃ A, shV L0 = A := ⟨_, rfl⟩
  obtain ⟨b0, hb00⟩ : ∃ b, valid L0 = b := ⟨_, rfl⟩
  have HC := Lib.hid (fun W hW => show Calls Try.prog 52 #[.agg #[.slice a0 L0.length n0]] W (SOut W A0 b0) by rw [← hA0, ← hb00]; exact told_any (.slice a0 L0.length n0) L0 W hW (mod_of hT0))
  have HU1 := Lib.hid (show un LL 1 = (A0, b0) by rw [un_one, hL0, hA0, hb00])
  obtain ⟨e1, e2⟩ := union_yes (LL := LL) ⟨h1, h2⟩
  have HE1 := Lib.hid e1
  have HE2 := Lib.hid e2
  have HOff := Lib.hid (fun j h3 h4 h5 => union_off (LL := LL) (j := j) ⟨h1, h2⟩ h3 h4 h5)
  generalize unionL LL = UL at HE1 HOff ⊢
  generalize unionB LL = UB at HE2 HOff ⊢
  clear e1 e2 hI hA0 hb00 hS0 hL0 hs0
  by_cases hn1 : LL.length = 1
  · have HL1 := Lib.hid hn1
    rw [hn1] at HE1 HE2
    rw [hn1]
    clear hn1
    go_enter Try.func16, Try.ntmps16
    go_wp2_with (first | (go_at_call 51; refine (Calls.mono (by have := HI.out; rw [HL1.out] at this; exact this _) ?_); rintro e w' ⟨rfl, he⟩; subst w') | (go_at_call 52; refine (Calls.mono (by exact HC.out _ HN0.out) ?_); rintro e w2 ⟨u2, rfl, hu2, hb2⟩; obtain ⟨a2, n2, hu2'⟩ := hu2.form; subst hu2'))
    have hR3 := (HR.out.keep hb2).keep (bl1 w2 (.cells #[.slice a2 A0.length n2] 26))
    have hO3 := Bl1.new w2 (.slice a2 A0.length n2)
    have hz := hb0.size
    have hz3 : w.heap.size < w2.heap.size := World.block_lt_of_cell? w2 _ (HR.out.keep hb2).cell
    have hS3 := OwnSh.mono (hu2.keep (bl1 w2 (.cells #[.slice a2 A0.length n2] 26))) hz (show w2.heap.size ≤ (w2.alloc (.cells #[.slice a2 A0.length n2] 26)).heap.size by simp) (Nat.le_refl _)
    have e3 := bl_call (bl_call hb0 hb2) (bl1 w2 (.cells #[.slice a2 A0.length n2] 26))
    clear hb0 hb2 hk0 hu2 hz hc0
    obtain ⟨co, hco⟩ : ∃ co, w2.heap.size = co := ⟨_, rfl⟩
    rw [hco] at hO3 hz3 ⊢
    clear hco
    go_loopw [5, 23] (fun o i wr => o = .bool b0 ∧ i = .int .i64 0 ∧ Bl1 wr co (.slice a2 A0.length n2) ∧ Bl1 wr w.heap.size (.slice none 0 0) ∧ OwnSh wr w.heap.size wr.heap.size (.slice a2 A0.length n2) A0 ∧ Below w.heap.size w wr) (fun _ _ _ => 0)
    case atStart => exact ⟨rfl, rfl, hO3, hR3, hS3, e3⟩
    case round =>
      clear hO3 hR3 hS3 e3
      obtain ⟨rfl, rfl, hO, hR, hS, hbw⟩ := hrel
      have o0 := hO.cell
      have r0 := hR.cell
      have fr := hR.frozen
      have HS := Lib.hid hS
      clear hS
      go_wp2_with fail
      refine bodyPost_ret (results_shape rfl _ _ w.heap.size _ rfl (Bl1.set hR _)) rfl ?_
      obtain ⟨x1, x2⟩ := And.intro HE1.out HE2.out
      rw [HU1.out] at x1 x2
      subst x1 x2
      exact ⟨_, rfl, OwnSh.mono (HS.out.set1 hR _) (Nat.le_refl _) (by simp [World.setCell]) (Nat.le_refl _), bl_set hbw (Nat.le_refl _) _⟩
  have hn2 : 2 ≤ LL.length := by omega
  go_enter Try.func16, Try.ntmps16
  go_wp2_with (first | (go_at_call 51; refine (Calls.mono (by exact HI.out _) ?_); rintro e w' ⟨rfl, he⟩; subst w') | (go_at_call 52; refine (Calls.mono (by exact HC.out _ HN0.out) ?_); rintro e w2 ⟨u2, rfl, hu2, hb2⟩; obtain ⟨a2, n2, hu2'⟩ := hu2.form; subst hu2'))
  have hR3 := (HR.out.keep hb2).keep (bl1 w2 (.cells #[.slice a2 A0.length n2] 26))
  have hO3 := Bl1.new w2 (.slice a2 A0.length n2)
  have hz := hb0.size
  have hz3 : w.heap.size < w2.heap.size := World.block_lt_of_cell? w2 _ (HR.out.keep hb2).cell
  have hS3 := OwnSh.mono (hu2.keep (bl1 w2 (.cells #[.slice a2 A0.length n2] 26))) hz (show w2.heap.size ≤ (w2.alloc (.cells #[.slice a2 A0.length n2] 26)).heap.size by simp) (Nat.le_refl _)
  have e3 := bl_call (bl_call hb0 hb2) (bl1 w2 (.cells #[.slice a2 A0.length n2] 26))
  clear hb0 hb2 hk0 hu2 hz hc0
  obtain ⟨co, hco⟩ : ∃ co, w2.heap.size = co := ⟨_, rfl⟩
  rw [hco] at hO3 hz3 ⊢
  clear hco
  go_loopw [5, 23] (fun o i wr => ∃ (j : Nat) (A : List Nd) (b : Bool) (a : Option Addr) (n : Nat), j ≤ LL.length - 1 ∧ i = .int .i64 j ∧ o = .bool b ∧ Bl1 wr co (.slice a A.length n) ∧ Bl1 wr w.heap.size (.slice none 0 0) ∧ OwnSh wr w.heap.size wr.heap.size (.slice a A.length n) A ∧ Below w.heap.size w wr ∧ RowKit.Hid (un LL (j + 1) = (A, b))) (fun _ i _ => LL.length - (intOf i).toNat)
  case atStart => exact ⟨0, A0, b0, a2, n2, Nat.zero_le _, rfl, rfl, hO3, hR3, hS3, e3, HU1⟩
  case round =>
    clear hO3 hR3 hS3 e3
    obtain ⟨j, A, b, a, n, hjl, rfl, rfl, hO, hR, hS, hbw, hun⟩ := hrel
    by_cases hlt : j < LL.length - 1
    · obtain ⟨hc1, lo1, hi1, hS1⟩ := H.out (1 + j) (by omega)
      have hc2 := cellk hc1 hbw
      obtain ⟨B, hB⟩ : ∃ B, sh_ LL (1 + j) = B := ⟨_, rfl⟩
      have hTB := totS_at HT.out (by omega) hB
      rw [hB] at hS1
      obtain ⟨s1, hs1⟩ : ∃ s, f (1 + j) = s := ⟨_, rfl⟩
      rw [hs1] at hc2 hS1
      obtain ⟨a1, n1, rfl⟩ := hS1.form
      have hcw : co < wr.heap.size := World.block_lt_of_cell? wr _ hO.cell
      have HB := Lib.hid (bl_alloc hbw (.cells #[.slice a1 B.length n1] 26))
      have hb4 := bl1 wr (.cells #[.slice a1 B.length n1] 26)
      have hO4 := hO.keep hb4
      have hR4 := hR.keep hb4
      have o4 := hO4.cell
      have r4 := hR4.cell
      have fr4 := hR4.frozen
      cases b
      · clear hc1 hs1 hB hS1 hS
        go_wp2_with fail
        refine bodyPost_ret (results_shape rfl _ _ w.heap.size _ rfl (Bl1.set hR4 _)) rfl ?_
        obtain ⟨x1, x2⟩ := HOff.out (j + 1) (by omega) (by omega) (by rw [hun.out])
        subst x1 x2
        exact ⟨_, rfl, OwnSh.nil _ _ _ (Nat.le_refl _), bl_set HB.out (Nat.le_refl _) _⟩
      · have hsm : A.length ≤ 16 ∧ sumX A ≤ 64 := by have := un_small LL (j + 1); rw [hun.out] at this; exact this
        obtain ⟨M, hM⟩ : ∃ M, joinL 5 A B [] = M := ⟨_, rfl⟩
        obtain ⟨b', hb'⟩ : ∃ b, joinB 5 A B [] = b := ⟨_, rfl⟩
        have HUN := Lib.hid (show un LL (j + 1 + 1) = (M, b') by rw [un_succ (by omega), hun.out, show j + 1 = 1 + j by omega, hB, ← hM, ← hb']; rfl)
        have HJ := Lib.hid (fun (W : World) (q1 : NodesIn W (.slice a A.length n) A) (q2 : OwnSh W lo1 hi1 (.slice a1 B.length n1) B) => show Calls Try.prog 43 #[.int .i64 5, .agg #[.slice a A.length n], .agg #[.slice a1 B.length n1], .slice none 0 0] W (SOut W M b') by rw [← hM, ← hb']; exact JoinShapes_any 5 _ _ _ A B [] lo1 hi1 W q1 q2 (mod_small hsm) (mod_of hTB) (NumV.nil W) (by simp))
        have HS4 := Lib.hid (hS.nodes.keep hb4)
        have HS1 := Lib.hid ((hS1.keep hbw).keep hb4)
        have hsw := HB.out.size
        clear hM hb' hun hc1 hs1 hB hS1 hS hsm hO hR
        go_wp2_with (go_at_call 43; refine (Calls.mono (by exact HJ.out _ HS4.out HS1.out) ?_); rintro e w5 ⟨u5, rfl, hu5, hb5⟩; obtain ⟨a5, n5, hu5'⟩ := hu5.form; subst hu5'; have hO5 := hO4.keep hb5; have o5 := hO5.cell; have fo5 := hO5.frozen)
        have hR5 := (hR4.keep hb5).far (p := ⟨co, 0, none⟩) (by show _ ≠ co; omega) (.slice a5 M.length n5)
        have hS5 := OwnSh.mono (hu5.set1 hO5 (.slice a5 M.length n5)) hsw (show w5.heap.size ≤ (w5.setCell ⟨co, 0, none⟩ (.slice a5 M.length n5)).heap.size by simp [World.setCell]) (Nat.le_refl _)
        go_roundw
        case rel => exact ⟨j + 1, M, b', a5, n5, by omega, by go_num, rfl, hO5.set _, hR5, hS5, bl_set (bl_call HB.out hb5) (by show _ ≤ co; omega) _, HUN⟩
        case measure => simp [intOf]; omega
    · have hjn : j + 1 = LL.length := by omega
      have HJN := Lib.hid hjn
      have o0 := hO.cell
      have r0 := hR.cell
      have fr := hR.frozen
      have HS := Lib.hid hS
      clear hS hjn
      go_wp2_with fail
      refine bodyPost_ret (results_shape rfl _ _ w.heap.size _ rfl (Bl1.set hR _)) rfl ?_
      obtain ⟨x1, x2⟩ := And.intro HE1.out HE2.out
      rw [← HJN.out, hun.out] at x1 x2
      subst x1 x2
      exact ⟨_, rfl, OwnSh.mono (HS.out.set1 hR _) (Nat.le_refl _) (by simp [World.setCell]) (Nat.le_refl _), bl_set hbw (Nat.le_refl _) _⟩
end Go.Proofs.Ytpbccoobkmahlaa
