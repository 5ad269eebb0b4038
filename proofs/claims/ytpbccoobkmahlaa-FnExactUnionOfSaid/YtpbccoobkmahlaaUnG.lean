/- The reference's UnionOf. No conditions but bounds. -/
import Derived.Test.YtpbccoobkmahlaaUn
import Derived.Deep.RegionHeld3
namespace Go.Proofs.Ytpbccoobkmahlaa
open Go.Fl Go.RowKit

theorem keepU {w w1 w2 : World} {p q : Addr} {v u : Value} {A B : List Nd} (h : w1.cell? p = some v ∧ w1.cell? q = some u ∧ NodesIn w1 v A ∧ NodesIn w1 u B ∧ Below w.heap.size w w1) (hb : Below w1.heap.size w1 w2) :
    w2.cell? p = some v ∧ w2.cell? q = some u ∧ NodesIn w2 v A ∧ NodesIn w2 u B ∧ Below w.heap.size w w2 :=
  ⟨cellk h.1 hb, cellk h.2.1 hb, h.2.2.1.keep hb, h.2.2.2.1.keep hb, bl_call h.2.2.2.2 hb⟩
theorem FIn_none (w : World) (a : Option Addr) (c : Nat) : FIn w (.slice a 0 c) [] := ⟨a, c, rfl, .inl rfl⟩
set_option maxHeartbeats 16000000 in
set_option maxRecDepth 100000 in
theorem spec_UnionOf_any (v : Value) (LL : List (List Nd)) (w : World) (h : ShR w v LL) (hn : totS LL ≤ 1048576) :
    Calls Try.prog 14 #[v] w (SOut w (unionL LL) (unionB LL)) := by
  have hlen : LL.length ≤ 1048576 := by unfold totS at hn; omega
  obtain ⟨g, f, rfl, hr⟩ := h
  have H := Lib.hid hr
  have HT := Lib.hid hn
  have hb0 := bl1 w (.cells #[.slice none 0 0] 26)
  have hR := Bl1.new w (.slice none 0 0)
  have HR := Lib.hid hR
  clear hr hn hR
  by_cases h1 : 1 ≤ LL.length
  rotate_left
  · obtain ⟨e1, e2⟩ := union_no (LL := LL) (fun hh => h1 hh.1)
    rw [e1, e2]
    have t1 : decide ((LL.length : Int) < 1) = true := by simp; omega
    clear e1 e2 h1
    go_enter Try.func14, Try.ntmps14
    go_wp2_with fail
    refine bodyPost_ret (results_shape rfl _ _ w.heap.size _ rfl HR.out) rfl ?_
    exact ⟨_, rfl, OwnSh.nil _ _ _ (Nat.le_refl _), hb0⟩
  have t1 : decide ((LL.length : Int) < 1) = false := by simp; omega
  by_cases h2 : LL.length ≤ 16
  rotate_left
  · obtain ⟨e1, e2⟩ := union_no (LL := LL) (fun hh => h2 hh.2)
    rw [e1, e2]
    have t2 : decide ((16 : Int) < LL.length) = true := by simp; omega
    clear e1 e2 h2
    go_enter Try.func14, Try.ntmps14
    go_wp2_with fail
    refine bodyPost_ret (results_shape rfl _ _ w.heap.size _ rfl HR.out) rfl ?_
    exact ⟨_, rfl, OwnSh.nil _ _ _ (Nat.le_refl _), hb0⟩
  have t2 : decide ((16 : Int) < LL.length) = false := by simp; omega
  have hp : 0 < LL.length := h1
  obtain ⟨hc0, lo0, hi0, hS0⟩ := H.out 0 (by omega)
  obtain ⟨L0, hL0⟩ : ∃ L, sh_ LL 0 = L := ⟨_, rfl⟩
  have hT0 := totS_at HT.out (by omega) hL0
  rw [hL0] at hS0
  obtain ⟨s0, hs0⟩ : ∃ s, f 0 = s := ⟨_, rfl⟩
  rw [hs0] at hc0 hS0
  obtain ⟨a0, n0, rfl⟩ := hS0.form
  have hk0 := cellk hc0 hb0
  have HN0 := Lib.hid (hS0.nodes.keep hb0)
  have HL0 := Lib.hid hL0
  clear hS0 hL0 hs0
  cases hV : valid L0
  · obtain ⟨e1, e2⟩ := union_off (LL := LL) (j := 1) ⟨h1, h2⟩ (Nat.le_refl _) h1 (by rw [un_one, HL0.out]; exact hV)
    rw [e1, e2]
    have HC := Lib.hid (fun W hc hW => l02Is_at hV g 0 (.slice a0 L0.length n0) W hc hW (mod_of hT0))
    clear hV e1 e2 h1 h2
    go_enter Try.func14, Try.ntmps14
    go_wp2_with (go_at_call 49; refine (Calls.mono (by exact HC.out _ hk0 HN0.out) ?_); rintro e w1 ⟨rfl, hb1⟩; have hR1 := HR.out.keep hb1; have r0 := hR1.cell; have fr := hR1.frozen)
    refine bodyPost_ret (results_shape rfl _ _ w.heap.size _ rfl (Bl1.set hR1 _)) rfl ?_
    exact ⟨_, rfl, OwnSh.nil _ _ _ (Nat.le_refl _), bl_set (bl_call hb0 hb1) (Nat.le_refl _) _⟩
  have HC := Lib.hid (fun W hc hW => l02Is_at hV g 0 (.slice a0 L0.length n0) W hc hW (mod_of hT0))
  have HO := Lib.hid (fun W hc hW => l02Own_any g (.slice a0 L0.length n0) L0 W hc hW hV)
  have HU1 := Lib.hid (show un LL 1 = (L0, true) by rw [un_one, HL0.out, hV, shV_yes hV])
  obtain ⟨e1, e2⟩ := union_yes (LL := LL) ⟨h1, h2⟩
  have HE1 := Lib.hid e1
  have HE2 := Lib.hid e2
  have HOff := Lib.hid (fun j h3 h4 h5 => union_off (LL := LL) (j := j) ⟨h1, h2⟩ h3 h4 h5)
  generalize unionL LL = UL at HE1 HOff ⊢
  generalize unionB LL = UB at HE2 HOff ⊢
  clear hV e1 e2
  go_enter Try.func14, Try.ntmps14
  go_wp2_with (first | (go_at_call 49; refine (Calls.mono (by exact HC.out _ hk0 HN0.out) ?_); rintro e w1 ⟨rfl, hb1⟩; have hk1 := cellk hk0 hb1) | (go_at_call 50; refine (Calls.mono (by exact HO.out _ hk1 (HN0.out.keep hb1)) ?_); rintro e w2 ⟨u2, rfl, hu2, hb2⟩; obtain ⟨a2, n2, hu2'⟩ := hu2.form; subst hu2'))
  have hR3 := ((HR.out.keep hb1).keep hb2).keep (bl1 w2 (.cells #[.slice a2 L0.length n2] 26))
  have hO3 := Bl1.new w2 (.slice a2 L0.length n2)
  have hz := (bl_call hb0 hb1).size
  have hz2 := hb2.size
  have hz3 : w.heap.size < w2.heap.size := World.block_lt_of_cell? w2 _ ((HR.out.keep hb1).keep hb2).cell
  have hS3 := OwnSh.mono (hu2.keep (bl1 w2 (.cells #[.slice a2 L0.length n2] 26))) hz (show w2.heap.size ≤ (w2.alloc (.cells #[.slice a2 L0.length n2] 26)).heap.size by simp) (Nat.le_refl _)
  have e3 := bl_call (bl_call (bl_call hb0 hb1) hb2) (bl1 w2 (.cells #[.slice a2 L0.length n2] 26))
  clear hb0 hb1 hb2 hk0 hk1 hu2 hz hz2 hc0
  obtain ⟨co, hco⟩ : ∃ co, w2.heap.size = co := ⟨_, rfl⟩
  rw [hco] at hO3 hz3 ⊢
  clear hco
  go_loopw [5] (fun i wr => ∃ (j : Nat) (A : List Nd) (a : Option Addr) (n : Nat), 1 ≤ j ∧ j ≤ LL.length ∧ i = .int .i64 j ∧ Bl1 wr co (.slice a A.length n) ∧ Bl1 wr w.heap.size (.slice none 0 0) ∧ OwnSh wr w.heap.size wr.heap.size (.slice a A.length n) A ∧ Below w.heap.size w wr ∧ RowKit.Hid (un LL j = (A, true))) (fun i _ => LL.length - (intOf i).toNat)
  case atStart => exact ⟨1, L0, a2, n2, Nat.le_refl _, h1, rfl, hO3, hR3, hS3, e3, HU1⟩
  case round =>
    clear hO3 hR3 hS3 e3
    obtain ⟨j, A, a, n, hj1, hjl, rfl, hO, hR, hS, hbw, hun⟩ := hrel
    by_cases hlt : j < LL.length
    · obtain ⟨hc1, lo1, hi1, hS1⟩ := H.out j hlt
      obtain ⟨B, hB⟩ : ∃ B, sh_ LL j = B := ⟨_, rfl⟩
      have hTB := totS_at HT.out hlt hB
      rw [hB] at hS1
      obtain ⟨s1, hs1⟩ : ∃ s, f j = s := ⟨_, rfl⟩
      rw [hs1] at hc1 hS1
      obtain ⟨a1, n1, rfl⟩ := hS1.form
      have hsm : A.length ≤ 16 ∧ sumX A ≤ 64 := by have := un_small LL j; rw [hun.out] at this; exact this
      obtain ⟨M, hM⟩ : ∃ M, joinL 5 A B [] = M := ⟨_, rfl⟩
      obtain ⟨b, hb⟩ : ∃ b, joinB 5 A B [] = b := ⟨_, rfl⟩
      have HUN := Lib.hid (show un LL (j + 1) = (M, b) by rw [un_succ hj1, hun.out, hB, ← hM, ← hb]; rfl)
      have HS := Lib.hid (fun (W : World) (u3 : Value) (q1 : NodesIn W (.slice a A.length n) A) (q2 : NodesIn W (.slice a1 B.length n1) B) (q3 : FIn W u3 []) => show Calls Try.prog 42 #[.int .i64 5, .agg #[.slice a A.length n], .agg #[.slice a1 B.length n1], u3] W (SOut W M b) by rw [← hM, ← hb]; exact spec_JoinShapes_any 5 _ _ u3 A B [] W q1 q2 (mod_small hsm) (mod_of hTB) q3 (by simp))
      have HSK := Lib.hid (fun (W : World) (hW : Below wr.heap.size wr W) => show W.cell? ⟨co, 0, none⟩ = some (.slice a A.length n) ∧ W.cell? ⟨g, j, none⟩ = some (.slice a1 B.length n1) ∧ NodesIn W (.slice a A.length n) A ∧ NodesIn W (.slice a1 B.length n1) B from ⟨cellk hO.cell hW, cellk (cellk hc1 hbw) hW, hS.nodes.keep hW, (hS1.nodes.keep hbw).keep hW⟩)
      have HZ2 := Lib.hid (show Bl1 ((wr.alloc (.cells #[.slice none 0 0] 26)).alloc (.cells #[] 61)) wr.heap.size (.slice none 0 0) from (Bl1.new wr (.slice none 0 0)).keep (bl1 _ _))
      have HZ3 := Lib.hid (show Bl1 ((wr.alloc (.cells #[] 61)).alloc (.cells #[.slice none 0 0] 26)) (wr.heap.size + 1) (.slice none 0 0) by have := Bl1.new (wr.alloc (.cells #[] 61)) (.slice none 0 0); simpa using this)
      have HO := Lib.hid hO
      have HR := Lib.hid hR
      have HB := Lib.hid hbw
      have hcw : co < wr.heap.size := World.block_lt_of_cell? wr _ hO.cell
      clear hM hb hun hO hR hS hS1 hs1 hc1 hB hsm hbw
      go_upto_region 7 with fail
      go_cut [6, 7] (fun s6 s7 wx => GL.DCut wr b M s6 s7 wx)
      case first =>
        go_region_held3 (fun wx => wx.cell? ⟨co, 0, none⟩ = some (.slice a A.length n) ∧ wx.cell? ⟨g, j, none⟩ = some (.slice a1 B.length n1)) (first | exact ⟨(HSK.out _ (by repeat (first | exact bl_refl _ | exact hw4 | refine bl_drew ?_ | refine bl_alloc ?_ _ | refine bl_set ?_ (Nat.le_refl _) _ | refine bl_set ?_ (Nat.le_add_right _ _) _))).1, (HSK.out _ (by repeat (first | exact bl_refl _ | exact hw4 | refine bl_drew ?_ | refine bl_alloc ?_ _ | refine bl_set ?_ (Nat.le_refl _) _ | refine bl_set ?_ (Nat.le_add_right _ _) _))).2.1⟩) (first | (go_at_call 42; refine (Calls.mono (by exact HS.out _ _ (HSK.out _ (by repeat (first | exact bl_refl _ | exact hw4 | refine bl_drew ?_ | refine bl_alloc ?_ _ | refine bl_set ?_ (Nat.le_refl _) _ | refine bl_set ?_ (Nat.le_add_right _ _) _))).2.2.1 (HSK.out _ (by repeat (first | exact bl_refl _ | exact hw4 | refine bl_drew ?_ | refine bl_alloc ?_ _ | refine bl_set ?_ (Nat.le_refl _) _ | refine bl_set ?_ (Nat.le_add_right _ _) _))).2.2.2 (FIn_none _ _ _)) ?_); rintro e w4 ⟨v4, rfl, o4, hb4⟩; obtain ⟨a4, n4, hv4⟩ := o4.form; subst hv4; have hw4 : Below wr.heap.size wr w4 := bl_call (by repeat (first | exact bl_refl _ | exact hw4 | refine bl_drew ?_ | refine bl_alloc ?_ _ | refine bl_set ?_ (Nat.le_refl _) _ | refine bl_set ?_ (Nat.le_add_right _ _) _)) hb4; (first | have hz4 := HZ2.out.keep (un_drw hb4) | have hz4 := HZ3.out.keep (un_drw hb4) | skip); (first | (have oz4 := hz4.cell; have fz4 := hz4.frozen) | skip)))
        all_goals (go_wp2_with fail; go_meet)
        all_goals first | (have hx := hz4; exact GL.DCut.low rfl rfl hz4 o4 hw4 (by first | (simp; done) | (simp; omega)) (by omega)) | exact GL.DCut.new rfl rfl o4 hw4 (by simp)
      case rest =>
        obtain ⟨rfl, gc, a5, n5, lo5, hi5, rfl, oc5, os5, q1, q2, q3, q4, hb5⟩ := hcut
        obtain ⟨wP, hwP⟩ : ∃ x, x = wc := ⟨wc, rfl⟩
        subst hwP
        have hR5 := HR.out.keep hb5
        have hO5 := HO.out.keep hb5
        have e5 := bl_call HB.out hb5
        have hsw := HB.out.size
        have o0 := hO5.cell
        have fo := hO5.frozen
        have r0 := hR5.cell
        have fr := hR5.frozen
        cases b
        · go_wp2_with fail
          refine bodyPost_ret (results_shape rfl _ _ w.heap.size _ rfl (Bl1.set hR5 _)) rfl ?_
          obtain ⟨x1, x2⟩ := HOff.out (j + 1) (by omega) (by omega) (by rw [HUN.out])
          subst x1 x2
          exact ⟨_, rfl, OwnSh.nil _ _ _ (Nat.le_refl _), bl_set e5 (Nat.le_refl _) _⟩
        · have hS5 := (os5.set1 hO5 (.slice a5 M.length n5)).mono (show w.heap.size ≤ lo5 by omega) (show hi5 ≤ (wP.setCell ⟨co, 0, none⟩ (.slice a5 M.length n5)).heap.size by simp [World.setCell]; omega) (Nat.le_refl _)
          clear os5
          go_wp2_with fail
          go_roundw
          case rel => exact ⟨j + 1, M, a5, n5, by omega, by omega, by go_num, hO5.set _, hR5.far (p := ⟨co, 0, none⟩) (by show _ ≠ co; omega) _, hS5, bl_set e5 (by show _ ≤ co; omega) _, HUN⟩
          case measure => simp [intOf]; omega
    · obtain rfl : j = LL.length := by omega
      have o0 := hO.cell
      have r0 := hR.cell
      have fr := hR.frozen
      have HS := Lib.hid hS
      clear hS hlt
      go_wp2_with fail
      refine bodyPost_ret (results_shape rfl _ _ w.heap.size _ rfl (Bl1.set hR _)) rfl ?_
      obtain ⟨x1, x2⟩ := And.intro HE1.out HE2.out
      rw [hun.out] at x1 x2
      subst x1 x2
      exact ⟨_, rfl, OwnSh.mono (HS.out.set1 hR _) (Nat.le_refl _) (by simp [World.setCell]) (Nat.le_refl _), bl_set hbw (Nat.le_refl _) _⟩
end Go.Proofs.Ytpbccoobkmahlaa
