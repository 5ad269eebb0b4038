/- The law FnExactJoinShapes returns true for all arguments. No conditions. -/
import Derived.Test.YtpbccoobkmahlaaGLawD
namespace Go.Proofs.Ytpbccoobkmahlaa.lawJoinShapes
open Go.ChangeShapes Go.WideShapes Go.ChangeAt Go.RowKit
open Go.Fl GL
set_option linter.unusedVariables false

set_option maxHeartbeats 32000000 in
set_option maxRecDepth 100000 in
theorem walk (k0 : Int) (g0 : (Lit.int IntKind.i64 k0).wf = true) (v1 : Value) (L1 : List Nd) (v2 : Value) (L2 : List Nd) (v3 : Value) (xs3 : List Nat) (w : World) (h1 : NodesIn w v1 L1) (s1 : Small L1) (h2 : NodesIn w v2 L2) (s2 : Small L2) (h3 : FIn w v3 xs3) : Calls Try.prog 10 #[.int .i64 k0, .agg #[v1], .agg #[v2], v3] w fun e w' => e = .returned (.bool true) ∧ Below w.heap.size w w' := by
  obtain ⟨a1, c1, rfl, _⟩ := id h1
  have H1 := Lib.hid h1
  have S1 := Lib.hid s1
  obtain ⟨a2, c2, rfl, _⟩ := id h2
  have H2 := Lib.hid h2
  have S2 := Lib.hid s2
  obtain ⟨a3, c3, rfl, _⟩ := id h3
  have H3 := Lib.hid h3
  clear h1 s1 h2 s2 h3
  have e0 := bl_refl w
  have hb_1 := bl1 w (.cells #[.slice a1 L1.length c1] 38)
  have B1_1 : (w.alloc (.cells #[.slice a1 L1.length c1] 38)).cell? ⟨w.heap.size, 0, none⟩ = some (.slice a1 L1.length c1) := by first | exact box1 w (.slice a1 L1.length c1) 38 | (simp; done) | simpa using box1 w (.slice a1 L1.length c1) 38
  have e_2 := bl_call e0 hb_1
  clear e0
  clear hb_1
  have hb_3 := bl1 (w.alloc (.cells #[.slice a1 L1.length c1] 38)) (.cells #[.slice a2 L2.length c2] 38)
  have B2_3 : ((w.alloc (.cells #[.slice a1 L1.length c1] 38)).alloc (.cells #[.slice a2 L2.length c2] 38)).cell? ⟨w.heap.size + 1, 0, none⟩ = some (.slice a2 L2.length c2) := by first | exact box1 (w.alloc (.cells #[.slice a1 L1.length c1] 38)) (.slice a2 L2.length c2) 38 | (simp; done) | simpa using box1 (w.alloc (.cells #[.slice a1 L1.length c1] 38)) (.slice a2 L2.length c2) 38
  have e_4 := bl_call e_2 hb_3
  have B1_4 := cellk B1_1 hb_3
  clear e_2 B1_1
  clear hb_3
  by_cases hn3 : xs3.length ≤ 1048576
  rotate_left
  · have hd : decide ((1048576 : Int) < xs3.length) = true := by simp; omega
    go_enter Try.func10, Try.ntmps10
    go_wp2_with fail
    go_ret
    exact ⟨rfl, e_4⟩
  have hd3 : decide ((1048576 : Int) < xs3.length) = false := by simp; omega
  go_enter Try.func10, Try.ntmps10
  go_wp2_with fail
  refine (szShape_any _ L1 (1048576) _ (H1.out.keep e_4) S1.out (by omega)).mono ?_
  rintro e wz1 ⟨⟨hl1, rfl⟩ | ⟨hl1, rfl⟩, hbz1⟩
  rotate_left
  · go_wp2_with fail
    go_ret
    exact ⟨rfl, bl_call e_4 hbz1⟩
  have zz1 : w.heap.size + 1 + 1 ≤ wz1.heap.size := by have := hbz1.size; first | exact this | simpa using this
  have e_5 := bl_call e_4 hbz1
  have B1_5 := cellk B1_4 hbz1
  have B2_5 := cellk B2_3 hbz1
  clear e_4 B1_4 B2_3
  have hL1 := Lib.hid (show tot L1 ≤ 1048576 by omega)
  have hM1 := Lib.hid (mod_of hL1.out)
  have hn1_1 := nneg (1048576 - tot L1)
  go_wp2_with fail
  refine (szShape_any _ L2 (1048576 - tot L1) _ (H2.out.keep e_5) S2.out (by omega)).mono ?_
  rintro e wz2 ⟨⟨hl2, rfl⟩ | ⟨hl2, rfl⟩, hbz2⟩
  rotate_left
  · go_wp2_with fail
    go_ret
    exact ⟨rfl, bl_call e_5 hbz2⟩
  have zz2 : wz1.heap.size ≤ wz2.heap.size := by have := hbz2.size; first | exact this | simpa using this
  have e_6 := bl_call e_5 hbz2
  have B1_6 := cellk B1_5 hbz2
  have B2_6 := cellk B2_5 hbz2
  clear e_5 B1_5 B2_5
  have hL2 := Lib.hid (show tot L2 ≤ 1048576 by omega)
  have hM2 := Lib.hid (mod_of hL2.out)
  have hn1_2 := nneg (1048576 - tot L1 - tot L2)
  obtain ⟨M, hM⟩ : ∃ M, joinL k0 L1 L2 xs3 = M := ⟨_, rfl⟩
  obtain ⟨b, hb⟩ : ∃ b, joinB k0 L1 L2 xs3 = b := ⟨_, rfl⟩
  have hm : M.length ≤ 16 ∧ sumX M ≤ 64 := by rw [← hM]; exact join_small _ _ _ _
  have HS := Lib.hid (fun (W : World) (u1 u2 u3 : Value) (q1 : NodesIn W u1 L1) (q2 : NodesIn W u2 L2) (q3 : FIn W u3 xs3) => show Calls Try.prog 42 #[.int .i64 k0, .agg #[u1], .agg #[u2], u3] W (SOut W M b) by rw [← hM, ← hb]; exact spec_JoinShapes_any k0 u1 u2 u3 L1 L2 xs3 W q1 q2 hM1.out hM2.out q3 hn3)
  have HI := Lib.hid (fun (W : World) (u1 u2 u3 : Value) (lo1 hi1 lo2 hi2 : Nat) (q1 : OwnSh W lo1 hi1 u1 L1) (q2 : OwnSh W lo2 hi2 u2 L2) (q3 : NumV W u3 xs3) => show Calls Try.prog 43 #[.int .i64 k0, .agg #[u1], .agg #[u2], u3] W (SOut W M b) by rw [← hM, ← hb]; exact JoinShapes_any k0 u1 u2 u3 L1 L2 xs3 lo2 hi2 W q1.nodes q2 hM1.out hM2.out q3 hn3)
  have hq := beq_self_bool b
  have ht : tot M ≤ 1048576 := by unfold tot; omega
  clear hM hb
  go_upto_region 10 with fail
  have HidP_e := Lib.hid e_6
  have HidP_B1 := Lib.hid B1_6
  have HidP_B2 := Lib.hid B2_6
  clear e_6 B1_6 B2_6
  go_cut [10, 11] (fun sc sb wx => DCut wz2 b M sc sb wx)
  case first =>
   as_aux_lemma =>
    have ce := HidP_e.out
    have cc1 := HidP_B1.out
    have d1 : wz2.drew.cell? ⟨w.heap.size, 0, none⟩ = some (.slice a1 L1.length c1) := cc1
    have z1 := cellk cc1 (bl1 wz2 (.cells #[.slice none 0 0] 26))
    have y1 : (wz2.alloc (.cells #[.slice none 0 0] 26)).drew.cell? ⟨w.heap.size, 0, none⟩ = some (.slice a1 L1.length c1) := z1
    have x1 : (wz2.drew.alloc (.cells #[.slice none 0 0] 26)).cell? ⟨w.heap.size, 0, none⟩ = some (.slice a1 L1.length c1) := z1
    have cc2 := HidP_B2.out
    have d2 : wz2.drew.cell? ⟨w.heap.size + 1, 0, none⟩ = some (.slice a2 L2.length c2) := cc2
    have z2 := cellk cc2 (bl1 wz2 (.cells #[.slice none 0 0] 26))
    have y2 : (wz2.alloc (.cells #[.slice none 0 0] 26)).drew.cell? ⟨w.heap.size + 1, 0, none⟩ = some (.slice a2 L2.length c2) := z2
    have x2 : (wz2.drew.alloc (.cells #[.slice none 0 0] 26)).cell? ⟨w.heap.size + 1, 0, none⟩ = some (.slice a2 L2.length c2) := z2
    go_region_law (first | (go_simp; go_at_call 42; refine (by first | exact HS.out _ _ _ _ s1.nodes s2.nodes (FIn_of_row rfl o3) | exact HS.out _ _ _ _ (s1.keep (bl1 w3 (.cells #[.slice none 0 0] 26))).nodes (s2.keep (bl1 w3 (.cells #[.slice none 0 0] 26))).nodes (FIn_of_row rfl (own_keep o3 (bl1 w3 (.cells #[.slice none 0 0] 26)))) : Calls _ _ _ _ _).mono ?_; rintro ee w4 ⟨v4, rfl, o4, hb4⟩; obtain ⟨a4, n4, hv4⟩ := o4.form; subst hv4; have b4 : Below w3.heap.size w3 w4 := (by first | exact hb4 | exact (bl1 w3 (.cells #[.slice none 0 0] 26)).trans (hb4.mono (by simp))); (first | have hz4 := Bl1.keep hz3 hb4 | have hz4 := (Bl1.new _ (.slice none 0 0)).keep (un_drw hb4) | have hz4 := (Bl1.new _ (.slice none 0 0)).keep hb4 | skip); (first | (have oz4 := hz4.cell; have fz4 := hz4.frozen) | skip)) | (go_simp; go_at_call 31; refine (toFloat32S_any _ _ _ (by first | exact H3.out.keep (bl_call (bl_call ce b1) b2) | exact H3.out.keep (bl_alloc (bl_call (bl_call ce b1) b2) _)) hn3).mono ?_; rintro ee w3 ⟨g3, rfl, l3, o3, hb3⟩; have b3 : Below w2.heap.size w2 w3 := (by first | exact hb3 | exact (bl1 w2 (.cells #[.slice none 0 0] 26)).trans (hb3.mono (by simp))); (first | have hz3 := Bl1.keep hz2 hb3 | have hz3 := (Bl1.new _ (.slice none 0 0)).keep (un_drw hb3) | have hz3 := (Bl1.new _ (.slice none 0 0)).keep hb3 | skip); (first | (have oz3 := hz3.cell; have fz3 := hz3.frozen) | skip); have s1 := (o1.keep b2).keep b3; have s2 := o2.keep b3; have b30 := bl_call (bl_call b1 b2) b3) | (go_simp; go_at_call 24; have hx := o1; refine (toShape_own _ L2 _ (by first | exact H2.out.keep (bl_call ce b1) | exact H2.out.keep (bl_alloc (bl_call ce b1) _)) hL2.out).mono ?_; rintro ee w2 ⟨g2, rfl, o2, hb2⟩; have b2 : Below w1.heap.size w1 w2 := (by first | exact hb2 | exact (bl1 w1 (.cells #[.slice none 0 0] 26)).trans (hb2.mono (by simp))); (first | have hz2 := Bl1.keep hz1 hb2 | have hz2 := (Bl1.new _ (.slice none 0 0)).keep (un_drw hb2) | have hz2 := (Bl1.new _ (.slice none 0 0)).keep hb2 | skip); (first | (have oz2 := hz2.cell; have fz2 := hz2.frozen) | skip)) | (go_simp; go_at_call 24; refine (toShape_own _ L1 _ (by first | exact H1.out.keep (bl_drew ce) | exact H1.out.keep (bl_drew (bl_alloc ce _))) hL1.out).mono ?_; rintro ee w1 ⟨g1, rfl, o1, hb1⟩; have b1 : Below wz2.heap.size wz2 w1 := (by first | exact un_drw hb1 | exact (bl1 wz2 (.cells #[.slice none 0 0] 26)).trans ((un_drw hb1).mono (by simp))); (first | have hz1 := Bl1.keep hz0 hb1 | have hz1 := (Bl1.new _ (.slice none 0 0)).keep (un_drw hb1) | have hz1 := (Bl1.new _ (.slice none 0 0)).keep hb1 | skip); (first | (have oz1 := hz1.cell; have fz1 := hz1.frozen) | skip); have c2_1 := cellk cc2 b1; have c2z_1 := cellk c2_1 (bl1 w1 (.cells #[.slice none 0 0] 26))))
    all_goals (have b40 := bl_call b30 b4; have q1 := b30.size; have q2 := b4.size; have q3 := b1.size; have q4 := b2.size; have q5 := b3.size; go_wp2_with fail; go_meet)
    all_goals first | (have hx := hz4; exact DCut.low rfl rfl hz4 o4 b40 (by first | (have := World.block_lt_of_cell? _ _ hz3.cell; omega) | (have := World.block_lt_of_cell? _ _ hz3.cell; simp at this; omega) | (have := World.block_lt_of_cell? _ _ hz3.cell; simp at this ⊢; omega) | (simp; omega) | (simp; done)) (by first | omega | (simp; omega))) | exact DCut.new rfl rfl o4 b40 (by first | omega | (simp; omega))
  case rest =>
    obtain ⟨rfl, gcP, aP, nP, loP, hiP, rfl, ocP, osP, q1P, q2P, q3P, q4P, hbP⟩ := hcut
    obtain ⟨wP, hwqP⟩ : ∃ x, x = wc := ⟨wc, rfl⟩
    subst hwqP
    have UP_e := HidP_e.out
    clear HidP_e
    have UP_B1 := HidP_B1.out
    clear HidP_B1
    have UP_B2 := HidP_B2.out
    clear HidP_B2
    have q5P : gcP < wP.heap.size := World.block_lt_of_cell? _ _ ocP
    have zP : wz2.heap.size ≤ wP.heap.size := by have := hbP.size; first | exact this | simpa using this
    have e_7 := bl_call UP_e hbP
    have B1_7 := cellk UP_B1 hbP
    have B2_7 := cellk UP_B2 hbP
    clear UP_e UP_B1 UP_B2
    clear hbP
    go_wp2_with fail
    refine (toShape_own _ L1 _ (H1.out.keep e_7) hL1.out).mono ?_
    rintro e wX1 ⟨gX1, rfl, oX1, hbX1⟩
    have zX1 : wP.heap.size ≤ wX1.heap.size := by have := hbX1.size; first | exact this | simpa using this
    have e_8 := bl_call e_7 hbX1
    have B1_8 := cellk B1_7 hbX1
    have B2_8 := cellk B2_7 hbX1
    have P_8 := osP.keep hbX1
    have cP_8 := cellk ocP hbX1
    clear e_7 B1_7 B2_7 osP ocP
    clear hbX1
    have pX1 : OwnSh wX1 (wP.heap.size) wX1.heap.size (.slice (some ⟨gX1, 0, none⟩) L1.length L1.length) L1 := by first | exact oX1 | simpa using oX1
    clear oX1
    have hb_9 := bl1 wX1 (.cells #[.slice (some ⟨gX1, 0, none⟩) L1.length L1.length] 26)
    have cX1_9 : (wX1.alloc (.cells #[.slice (some ⟨gX1, 0, none⟩) L1.length L1.length] 26)).cell? ⟨wX1.heap.size, 0, none⟩ = some (.slice (some ⟨gX1, 0, none⟩) L1.length L1.length) := by first | exact box1 wX1 (.slice (some ⟨gX1, 0, none⟩) L1.length L1.length) 26 | (simp; done) | simpa using box1 wX1 (.slice (some ⟨gX1, 0, none⟩) L1.length L1.length) 26
    have e_10 := bl_call e_8 hb_9
    have B1_10 := cellk B1_8 hb_9
    have B2_10 := cellk B2_8 hb_9
    have P_10 := P_8.keep hb_9
    have cP_10 := cellk cP_8 hb_9
    have X1_10 := pX1.keep hb_9
    clear e_8 B1_8 B2_8 P_8 cP_8 pX1
    clear hb_9
    go_wp2_with fail
    refine (toShape_own _ L2 _ (H2.out.keep e_10) hL2.out).mono ?_
    rintro e wX2 ⟨gX2, rfl, oX2, hbX2⟩
    have zX2 : wX1.heap.size + 1 ≤ wX2.heap.size := by have := hbX2.size; first | exact this | simpa using this
    have e_11 := bl_call e_10 hbX2
    have B1_11 := cellk B1_10 hbX2
    have B2_11 := cellk B2_10 hbX2
    have P_11 := P_10.keep hbX2
    have cP_11 := cellk cP_10 hbX2
    have X1_11 := X1_10.keep hbX2
    have cX1_11 := cellk cX1_9 hbX2
    clear e_10 B1_10 B2_10 P_10 cP_10 X1_10 cX1_9
    clear hbX2
    have pX2 : OwnSh wX2 (wX1.heap.size + 1) wX2.heap.size (.slice (some ⟨gX2, 0, none⟩) L2.length L2.length) L2 := by first | exact oX2 | simpa using oX2
    clear oX2
    have hb_12 := bl1 wX2 (.cells #[.slice (some ⟨gX2, 0, none⟩) L2.length L2.length] 26)
    have cX2_12 : (wX2.alloc (.cells #[.slice (some ⟨gX2, 0, none⟩) L2.length L2.length] 26)).cell? ⟨wX2.heap.size, 0, none⟩ = some (.slice (some ⟨gX2, 0, none⟩) L2.length L2.length) := by first | exact box1 wX2 (.slice (some ⟨gX2, 0, none⟩) L2.length L2.length) 26 | (simp; done) | simpa using box1 wX2 (.slice (some ⟨gX2, 0, none⟩) L2.length L2.length) 26
    have e_13 := bl_call e_11 hb_12
    have B1_13 := cellk B1_11 hb_12
    have B2_13 := cellk B2_11 hb_12
    have P_13 := P_11.keep hb_12
    have cP_13 := cellk cP_11 hb_12
    have X1_13 := X1_11.keep hb_12
    have cX1_13 := cellk cX1_11 hb_12
    have X2_13 := pX2.keep hb_12
    clear e_11 B1_11 B2_11 P_11 cP_11 X1_11 cX1_11 pX2
    clear hb_12
    go_wp2_with fail
    refine (toFloat32S_any _ _ _ (H3.out.keep e_13) hn3).mono ?_
    rintro e wX3 ⟨gX3, rfl, lX3, oX3, hbX3⟩
    have zX3 : wX2.heap.size + 1 ≤ wX3.heap.size := by have := hbX3.size; first | exact this | simpa using this
    have e_14 := bl_call e_13 hbX3
    have B1_14 := cellk B1_13 hbX3
    have B2_14 := cellk B2_13 hbX3
    have P_14 := P_13.keep hbX3
    have cP_14 := cellk cP_13 hbX3
    have X1_14 := X1_13.keep hbX3
    have cX1_14 := cellk cX1_13 hbX3
    have X2_14 := X2_13.keep hbX3
    have cX2_14 := cellk cX2_12 hbX3
    clear e_13 B1_13 B2_13 P_13 cP_13 X1_13 cX1_13 X2_13 cX2_12
    clear hbX3
    have xX3 : wX2.heap.size + 1 ≤ gX3 := by first | exact lX3 | simpa using lX3
    have yX3 : gX3 < wX3.heap.size := (oX3.lt _ rfl).2
    clear lX3
    go_wp2_with fail
    refine (HI.out _ _ _ _ _ _ _ _ X1_14 X2_14 (NumV_row rfl oX3)).mono ?_
    rintro e wQ ⟨vQ, rfl, oQ, hbQ⟩
    obtain ⟨aQ, nQ, hvQ⟩ := oQ.form
    subst hvQ
    have zQ : wX3.heap.size ≤ wQ.heap.size := by have := hbQ.size; first | exact this | simpa using this
    have e_15 := bl_call e_14 hbQ
    have B1_15 := cellk B1_14 hbQ
    have B2_15 := cellk B2_14 hbQ
    have P_15 := P_14.keep hbQ
    have cP_15 := cellk cP_14 hbQ
    have X1_15 := X1_14.keep hbQ
    have cX1_15 := cellk cX1_14 hbQ
    have X2_15 := X2_14.keep hbQ
    have cX2_15 := cellk cX2_14 hbQ
    have X3_15 := own_keep oX3 hbQ
    clear e_14 B1_14 B2_14 P_14 cP_14 X1_14 cX1_14 X2_14 cX2_14 oX3
    clear hbQ
    have pQ : OwnSh wQ (wX3.heap.size) wQ.heap.size (.slice aQ M.length nQ) M := by first | exact oQ | simpa using oQ
    clear oQ
    have hb_16 := bl1 wQ (.cells #[.slice aQ M.length nQ] 26)
    have cQ_16 : (wQ.alloc (.cells #[.slice aQ M.length nQ] 26)).cell? ⟨wQ.heap.size, 0, none⟩ = some (.slice aQ M.length nQ) := by first | exact box1 wQ (.slice aQ M.length nQ) 26 | (simp; done) | simpa using box1 wQ (.slice aQ M.length nQ) 26
    have e_17 := bl_call e_15 hb_16
    have B1_17 := cellk B1_15 hb_16
    have B2_17 := cellk B2_15 hb_16
    have P_17 := P_15.keep hb_16
    have cP_17 := cellk cP_15 hb_16
    have X1_17 := X1_15.keep hb_16
    have cX1_17 := cellk cX1_15 hb_16
    have X2_17 := X2_15.keep hb_16
    have cX2_17 := cellk cX2_15 hb_16
    have X3_17 := own_keep X3_15 hb_16
    have Q_17 := pQ.keep hb_16
    clear e_15 B1_15 B2_15 P_15 cP_15 X1_15 cX1_15 X2_15 cX2_15 X3_15 pQ
    clear hb_16
    go_wp2_with fail
    refine (eqShape_true _ _ M _ Q_17.nodes P_17.nodes ht).mono ?_
    rintro e wE1 ⟨rfl, hbwE1⟩
    have zwE1 : wQ.heap.size + 1 ≤ wE1.heap.size := by have := hbwE1.size; first | exact this | simpa using this
    have e_18 := bl_call e_17 hbwE1
    have B1_18 := cellk B1_17 hbwE1
    have B2_18 := cellk B2_17 hbwE1
    have P_18 := P_17.keep hbwE1
    have cP_18 := cellk cP_17 hbwE1
    have X1_18 := X1_17.keep hbwE1
    have cX1_18 := cellk cX1_17 hbwE1
    have X2_18 := X2_17.keep hbwE1
    have cX2_18 := cellk cX2_17 hbwE1
    have X3_18 := own_keep X3_17 hbwE1
    have Q_18 := Q_17.keep hbwE1
    have cQ_18 := cellk cQ_16 hbwE1
    clear e_17 B1_17 B2_17 P_17 cP_17 X1_17 cX1_17 X2_17 cX2_17 X3_17 Q_17 cQ_16
    clear hbwE1
    go_upto_region 17 with fail
    have HS0_1 := Lib.hid (show wE1.drew.cell? ⟨w.heap.size, 0, none⟩ = some (.slice a1 L1.length c1) ∧ wE1.drew.cell? ⟨wX1.heap.size, 0, none⟩ = some (.slice (some ⟨gX1, 0, none⟩) L1.length L1.length) ∧ NodesIn wE1.drew (.slice (some ⟨gX1, 0, none⟩) L1.length L1.length) L1 ∧ Below wE1.heap.size wE1 wE1.drew from ⟨B1_18, cX1_18, X1_18.nodes, bl_drew (bl_refl _)⟩)
    have Hid_e := Lib.hid e_18
    clear e_18
    have Hid_B1 := Lib.hid B1_18
    clear B1_18
    have Hid_B2 := Lib.hid B2_18
    clear B2_18
    have Hid_P := Lib.hid P_18
    clear P_18
    have Hid_cP := Lib.hid cP_18
    clear cP_18
    have Hid_X1 := Lib.hid X1_18
    clear X1_18
    have Hid_cX1 := Lib.hid cX1_18
    clear cX1_18
    have Hid_X2 := Lib.hid X2_18
    clear X2_18
    have Hid_cX2 := Lib.hid cX2_18
    clear cX2_18
    have Hid_X3 := Lib.hid X3_18
    clear X3_18
    have Hid_Q := Lib.hid Q_18
    clear Q_18
    have Hid_cQ := Lib.hid cQ_18
    clear cQ_18
    go_cut [73] (fun sx wx => sx = .bool false ∧ Below wE1.heap.size wE1 wx)
    case first =>
      go_region_held3 (fun wx => wx.cell? ⟨w.heap.size, 0, none⟩ = some (.slice a1 L1.length c1) ∧ wx.cell? ⟨wX1.heap.size, 0, none⟩ = some (.slice (some ⟨gX1, 0, none⟩) L1.length L1.length) ∧ NodesIn wx (.slice (some ⟨gX1, 0, none⟩) L1.length L1.length) L1 ∧ Below wE1.heap.size wE1 wx) (first | exact HS0_1.out | exact keepB (by assumption) (by assumption)) (first | (go_at_call 24; refine (toShape_any _ L1 _ (H1.out.keep (bl_call Hid_e.out (And.right (And.right (And.right (by assumption)))))) hL1.out).mono ?_; rintro e wa ⟨va, rfl, hA, hba⟩; obtain ⟨ga', hga, _⟩ := id hA; subst hga) | (go_at_call 17; refine (eqShape_true _ _ L1 _ (And.left (And.right (And.right (by assumption)))) hA.nodes hL1.out).mono ?_; rintro e wd ⟨rfl, hbd⟩))
      all_goals (go_wp2_with fail; go_meet; exact ⟨rfl, And.right (And.right (And.right (by assumption)))⟩)
    case rest =>
      obtain ⟨rfl, hE1⟩ := hcut
      clear HS0_1
      have U1_e := Hid_e.out
      clear Hid_e
      have U1_B1 := Hid_B1.out
      clear Hid_B1
      have U1_B2 := Hid_B2.out
      clear Hid_B2
      have U1_P := Hid_P.out
      clear Hid_P
      have U1_cP := Hid_cP.out
      clear Hid_cP
      have U1_X1 := Hid_X1.out
      clear Hid_X1
      have U1_cX1 := Hid_cX1.out
      clear Hid_cX1
      have U1_X2 := Hid_X2.out
      clear Hid_X2
      have U1_cX2 := Hid_cX2.out
      clear Hid_cX2
      have U1_X3 := Hid_X3.out
      clear Hid_X3
      have U1_Q := Hid_Q.out
      clear Hid_Q
      have U1_cQ := Hid_cQ.out
      clear Hid_cQ
      obtain ⟨wq1, hwq1⟩ : ∃ x, x = wc := ⟨wc, rfl⟩
      subst hwq1
      have zE1 : wE1.heap.size ≤ wq1.heap.size := by have := hE1.size; first | exact this | simpa using this
      have e_19 := bl_call U1_e hE1
      have B1_19 := cellk U1_B1 hE1
      have B2_19 := cellk U1_B2 hE1
      have P_19 := U1_P.keep hE1
      have cP_19 := cellk U1_cP hE1
      have X1_19 := U1_X1.keep hE1
      have cX1_19 := cellk U1_cX1 hE1
      have X2_19 := U1_X2.keep hE1
      have cX2_19 := cellk U1_cX2 hE1
      have X3_19 := own_keep U1_X3 hE1
      have Q_19 := U1_Q.keep hE1
      have cQ_19 := cellk U1_cQ hE1
      clear U1_e U1_B1 U1_B2 U1_P U1_cP U1_X1 U1_cX1 U1_X2 U1_cX2 U1_X3 U1_Q U1_cQ
      clear hE1
      go_upto_region 19 with fail
      have HS0_2 := Lib.hid (show wq1.drew.cell? ⟨w.heap.size + 1, 0, none⟩ = some (.slice a2 L2.length c2) ∧ wq1.drew.cell? ⟨wX2.heap.size, 0, none⟩ = some (.slice (some ⟨gX2, 0, none⟩) L2.length L2.length) ∧ NodesIn wq1.drew (.slice (some ⟨gX2, 0, none⟩) L2.length L2.length) L2 ∧ Below wq1.heap.size wq1 wq1.drew from ⟨B2_19, cX2_19, X2_19.nodes, bl_drew (bl_refl _)⟩)
      have Hid_e := Lib.hid e_19
      clear e_19
      have Hid_B1 := Lib.hid B1_19
      clear B1_19
      have Hid_B2 := Lib.hid B2_19
      clear B2_19
      have Hid_P := Lib.hid P_19
      clear P_19
      have Hid_cP := Lib.hid cP_19
      clear cP_19
      have Hid_X1 := Lib.hid X1_19
      clear X1_19
      have Hid_cX1 := Lib.hid cX1_19
      clear cX1_19
      have Hid_X2 := Lib.hid X2_19
      clear X2_19
      have Hid_cX2 := Lib.hid cX2_19
      clear cX2_19
      have Hid_X3 := Lib.hid X3_19
      clear X3_19
      have Hid_Q := Lib.hid Q_19
      clear Q_19
      have Hid_cQ := Lib.hid cQ_19
      clear cQ_19
      go_cut [78] (fun sx wx => sx = .bool false ∧ Below wq1.heap.size wq1 wx)
      case first =>
        go_region_held3 (fun wx => wx.cell? ⟨w.heap.size + 1, 0, none⟩ = some (.slice a2 L2.length c2) ∧ wx.cell? ⟨wX2.heap.size, 0, none⟩ = some (.slice (some ⟨gX2, 0, none⟩) L2.length L2.length) ∧ NodesIn wx (.slice (some ⟨gX2, 0, none⟩) L2.length L2.length) L2 ∧ Below wq1.heap.size wq1 wx) (first | exact HS0_2.out | exact keepB (by assumption) (by assumption)) (first | (go_at_call 24; refine (toShape_any _ L2 _ (H2.out.keep (bl_call Hid_e.out (And.right (And.right (And.right (by assumption)))))) hL2.out).mono ?_; rintro e wa ⟨va, rfl, hA, hba⟩; obtain ⟨ga', hga, _⟩ := id hA; subst hga) | (go_at_call 17; refine (eqShape_true _ _ L2 _ (And.left (And.right (And.right (by assumption)))) hA.nodes hL2.out).mono ?_; rintro e wd ⟨rfl, hbd⟩))
        all_goals (go_wp2_with fail; go_meet; exact ⟨rfl, And.right (And.right (And.right (by assumption)))⟩)
      case rest =>
        obtain ⟨rfl, hE2⟩ := hcut
        clear HS0_2
        have U2_e := Hid_e.out
        clear Hid_e
        have U2_B1 := Hid_B1.out
        clear Hid_B1
        have U2_B2 := Hid_B2.out
        clear Hid_B2
        have U2_P := Hid_P.out
        clear Hid_P
        have U2_cP := Hid_cP.out
        clear Hid_cP
        have U2_X1 := Hid_X1.out
        clear Hid_X1
        have U2_cX1 := Hid_cX1.out
        clear Hid_cX1
        have U2_X2 := Hid_X2.out
        clear Hid_X2
        have U2_cX2 := Hid_cX2.out
        clear Hid_cX2
        have U2_X3 := Hid_X3.out
        clear Hid_X3
        have U2_Q := Hid_Q.out
        clear Hid_Q
        have U2_cQ := Hid_cQ.out
        clear Hid_cQ
        obtain ⟨wq2, hwq2⟩ : ∃ x, x = wc := ⟨wc, rfl⟩
        subst hwq2
        have zE2 : wq1.heap.size ≤ wq2.heap.size := by have := hE2.size; first | exact this | simpa using this
        have e_20 := bl_call U2_e hE2
        have B1_20 := cellk U2_B1 hE2
        have B2_20 := cellk U2_B2 hE2
        have P_20 := U2_P.keep hE2
        have cP_20 := cellk U2_cP hE2
        have X1_20 := U2_X1.keep hE2
        have cX1_20 := cellk U2_cX1 hE2
        have X2_20 := U2_X2.keep hE2
        have cX2_20 := cellk U2_cX2 hE2
        have X3_20 := own_keep U2_X3 hE2
        have Q_20 := U2_Q.keep hE2
        have cQ_20 := cellk U2_cQ hE2
        clear U2_e U2_B1 U2_B2 U2_P U2_cP U2_X1 U2_cX1 U2_X2 U2_cX2 U2_X3 U2_Q U2_cQ
        clear hE2
        go_wp2_with fail
        refine (toFloat32S_any _ _ _ (H3.out.keep e_20) hn3).mono ?_
        rintro e wY3 ⟨gY3, rfl, lY3, oY3, hbY3⟩
        have zY3 : wq2.heap.size ≤ wY3.heap.size := by have := hbY3.size; first | exact this | simpa using this
        have e_21 := bl_call e_20 hbY3
        have B1_21 := cellk B1_20 hbY3
        have B2_21 := cellk B2_20 hbY3
        have P_21 := P_20.keep hbY3
        have cP_21 := cellk cP_20 hbY3
        have X1_21 := X1_20.keep hbY3
        have cX1_21 := cellk cX1_20 hbY3
        have X2_21 := X2_20.keep hbY3
        have cX2_21 := cellk cX2_20 hbY3
        have X3_21 := own_keep X3_20 hbY3
        have Q_21 := Q_20.keep hbY3
        have cQ_21 := cellk cQ_20 hbY3
        clear e_20 B1_20 B2_20 P_20 cP_20 X1_20 cX1_20 X2_20 cX2_20 X3_20 Q_20 cQ_20
        clear hbY3
        go_wp2_with fail
        refine (eqFloat32S_true _ _ _ _ (FIn_of_row rfl X3_21) (FIn_of_row rfl oY3) hn3).mono ?_
        rintro e w' ⟨rfl, mY3, he⟩
        subst w'
        clear oY3 lY3
        have e_22 := bl_drewN e_21 mY3
        have B1_22 := (show (wY3.drewN mY3).cell? ⟨w.heap.size, 0, none⟩ = some (.slice a1 L1.length c1) from B1_21)
        have B2_22 := (show (wY3.drewN mY3).cell? ⟨w.heap.size + 1, 0, none⟩ = some (.slice a2 L2.length c2) from B2_21)
        have P_22 := P_21.drewN mY3
        have cP_22 := (show (wY3.drewN mY3).cell? ⟨gcP, 0, none⟩ = some (.slice aP M.length nP) from cP_21)
        have X1_22 := X1_21.drewN mY3
        have cX1_22 := (show (wY3.drewN mY3).cell? ⟨wX1.heap.size, 0, none⟩ = some (.slice (some ⟨gX1, 0, none⟩) L1.length L1.length) from cX1_21)
        have X2_22 := X2_21.drewN mY3
        have cX2_22 := (show (wY3.drewN mY3).cell? ⟨wX2.heap.size, 0, none⟩ = some (.slice (some ⟨gX2, 0, none⟩) L2.length L2.length) from cX2_21)
        have X3_22 := own_drewN X3_21 mY3
        have Q_22 := Q_21.drewN mY3
        have cQ_22 := (show (wY3.drewN mY3).cell? ⟨wQ.heap.size, 0, none⟩ = some (.slice aQ M.length nQ) from cQ_21)
        clear e_21 B1_21 B2_21 P_21 cP_21 X1_21 cX1_21 X2_21 cX2_21 X3_21 Q_21 cQ_21
        obtain ⟨K1, hK1⟩ : ∃ K, 1 + (3 * L1.length + sumX L1) = K := ⟨_, rfl⟩
        have hsK1 : K1 ≤ 4194304 := by have := hL1.out; unfold tot at this; omega
        go_wp2_with fail
        refine (markShape_k1 K1 _ L1 _ _ _ hK1 X1_22 hL1.out).mono ?_
        rintro e wM1 ⟨rfl, hwwM1⟩
        have zwM1 : wY3.heap.size ≤ wM1.heap.size := by have := hwwM1.size; first | exact this | simpa using this
        clear X1_22
        clear cX1_22
        have e_23 := bl_within e_22 hwwM1 (by omega)
        have B1_23 := cellW B1_22 hwwM1 (by show w.heap.size < _ ∨ _ ≤ w.heap.size; omega)
        have B2_23 := cellW B2_22 hwwM1 (by show w.heap.size + 1 < _ ∨ _ ≤ w.heap.size + 1; omega)
        have P_23 := P_22.apart hwwM1 (by omega)
        have cP_23 := cellW cP_22 hwwM1 (by show gcP < _ ∨ _ ≤ gcP; omega)
        have X2_23 := X2_22.apart hwwM1 (by omega)
        have cX2_23 := cellW cX2_22 hwwM1 (by show wX2.heap.size < _ ∨ _ ≤ wX2.heap.size; omega)
        have X3_23 := row_within X3_22 hwwM1 (fun g hg => by simp [Value.ownBlock] at hg; omega)
        have Q_23 := Q_22.apart hwwM1 (by omega)
        have cQ_23 := cellW cQ_22 hwwM1 (by show wQ.heap.size < _ ∨ _ ≤ wQ.heap.size; omega)
        clear e_22 B1_22 B2_22 P_22 cP_22 X2_22 cX2_22 X3_22 Q_22 cQ_22
        clear hwwM1
        have nnK1 := nneg K1
        obtain ⟨K2, hK2⟩ : ∃ K, K1 + (3 * L2.length + sumX L2) = K := ⟨_, rfl⟩
        have hsK2 : K2 ≤ 8388608 := by have := hL2.out; unfold tot at this; omega
        go_wp2_with fail
        refine (markShape_k K1 K2 _ L2 _ _ _ hK2 X2_23 hL2.out (by omega)).mono ?_
        rintro e wM2 ⟨rfl, hwwM2⟩
        have zwM2 : wM1.heap.size ≤ wM2.heap.size := by have := hwwM2.size; first | exact this | simpa using this
        clear X2_23
        clear cX2_23
        have e_24 := bl_within e_23 hwwM2 (by omega)
        have B1_24 := cellW B1_23 hwwM2 (by show w.heap.size < _ ∨ _ ≤ w.heap.size; omega)
        have B2_24 := cellW B2_23 hwwM2 (by show w.heap.size + 1 < _ ∨ _ ≤ w.heap.size + 1; omega)
        have P_24 := P_23.apart hwwM2 (by omega)
        have cP_24 := cellW cP_23 hwwM2 (by show gcP < _ ∨ _ ≤ gcP; omega)
        have X3_24 := row_within X3_23 hwwM2 (fun g hg => by simp [Value.ownBlock] at hg; omega)
        have Q_24 := Q_23.apart hwwM2 (by omega)
        have cQ_24 := cellW cQ_23 hwwM2 (by show wQ.heap.size < _ ∨ _ ≤ wQ.heap.size; omega)
        clear e_23 B1_23 B2_23 P_23 cP_23 X3_23 Q_23 cQ_23
        clear hwwM2
        have nnK2 := nneg K2
        obtain ⟨K3, hK3⟩ : ∃ K, K2 + xs3.length = K := ⟨_, rfl⟩
        have hsK3 : K3 ≤ 10485760 := by omega
        go_wp2_with fail
        refine (markF_k K2 K3 _ xs3 _ _ _ hK3 rfl X3_24 (by omega)).mono ?_
        rintro e wM3 ⟨rfl, hgwM3⟩
        have hwwM3 := mark_within hgwM3 (Nat.le_refl _) (Nat.lt_succ_self _)
        have zwM3 : wM2.heap.size ≤ wM3.heap.size := by have := hwwM3.size; first | exact this | simpa using this
        clear X3_24
        have e_25 := bl_within e_24 hwwM3 (by omega)
        have B1_25 := cellW B1_24 hwwM3 (by show w.heap.size < _ ∨ _ ≤ w.heap.size; omega)
        have B2_25 := cellW B2_24 hwwM3 (by show w.heap.size + 1 < _ ∨ _ ≤ w.heap.size + 1; omega)
        have P_25 := P_24.apart hwwM3 (by omega)
        have cP_25 := cellW cP_24 hwwM3 (by show gcP < _ ∨ _ ≤ gcP; omega)
        have Q_25 := Q_24.apart hwwM3 (by omega)
        have cQ_25 := cellW cQ_24 hwwM3 (by show wQ.heap.size < _ ∨ _ ≤ wQ.heap.size; omega)
        clear e_24 B1_24 B2_24 P_24 cP_24 Q_24 cQ_24
        clear hwwM3
        have nnK3 := nneg K3
        go_wp2_with fail
        refine (eqShape_true _ _ M _ Q_25.nodes P_25.nodes ht).mono ?_
        rintro e wE2 ⟨rfl, hbwE2⟩
        have zwE2 : wM3.heap.size ≤ wE2.heap.size := by have := hbwE2.size; first | exact this | simpa using this
        have e_26 := bl_call e_25 hbwE2
        have B1_26 := cellk B1_25 hbwE2
        have B2_26 := cellk B2_25 hbwE2
        have P_26 := P_25.keep hbwE2
        have cP_26 := cellk cP_25 hbwE2
        have Q_26 := Q_25.keep hbwE2
        have cQ_26 := cellk cQ_25 hbwE2
        clear e_25 B1_25 B2_25 P_25 cP_25 Q_25 cQ_25
        clear hbwE2
        go_wp2_with fail
        refine (markShape_G _ M _ _ _ Q_26 hm).mono ?_
        rintro e wMG ⟨rfl, KG, hwG⟩
        have zMG : wE2.heap.size ≤ wMG.heap.size := by have := hwG.size; first | exact this | simpa using this
        clear Q_26
        have e_27 := bl_within e_26 hwG (by omega)
        have B1_27 := cellW B1_26 hwG (by show w.heap.size < _ ∨ _ ≤ w.heap.size; omega)
        have B2_27 := cellW B2_26 hwG (by show w.heap.size + 1 < _ ∨ _ ≤ w.heap.size + 1; omega)
        have P_27 := P_26.apart hwG (by omega)
        have cP_27 := cellW cP_26 hwG (by show gcP < _ ∨ _ ≤ gcP; omega)
        have cQ_27 := cellW cQ_26 hwG (by show wQ.heap.size < _ ∨ _ ≤ wQ.heap.size; omega)
        clear e_26 B1_26 B2_26 P_26 cP_26 cQ_26
        clear hwG
        have hkG := nneg (1 + (3 * M.length + sumX M))
        have hqG : (((1 + (3 * M.length + sumX M) : Nat) : Int) != ((1 + (3 * M.length + sumX M) : Nat) : Int)) = false := by simp
        go_wp2_with fail
        refine (heldShape_G _ _ _ _ _ KG).mono ?_
        rintro e wH1 ⟨rfl, hbH1⟩
        have zH1 : wMG.heap.size ≤ wH1.heap.size := by have := hbH1.size; first | exact this | simpa using this
        have e_28 := bl_call e_27 hbH1
        have B1_28 := cellk B1_27 hbH1
        have B2_28 := cellk B2_27 hbH1
        have P_28 := P_27.keep hbH1
        have cP_28 := cellk cP_27 hbH1
        have cQ_28 := cellk cQ_27 hbH1
        have KG_28 := KG.keep hbH1
        clear e_27 B1_27 B2_27 P_27 cP_27 cQ_27 KG
        clear hbH1
        go_upto_region 37 with fail
        have HidR_e := Lib.hid e_28
        have HidR_B1 := Lib.hid B1_28
        have HidR_B2 := Lib.hid B2_28
        have HidR_P := Lib.hid P_28
        have HidR_cP := Lib.hid cP_28
        have HidR_cQ := Lib.hid cQ_28
        have HidR_KG := Lib.hid KG_28
        clear e_28 B1_28 B2_28 P_28 cP_28 cQ_28 KG_28
        go_cut [20, 21] (fun sc sb wx => DCut wH1 b M sc sb wx)
        case first =>
         as_aux_lemma =>
          have ce := HidR_e.out
          have cc1 := HidR_B1.out
          have d1 : wH1.drew.cell? ⟨w.heap.size, 0, none⟩ = some (.slice a1 L1.length c1) := cc1
          have z1 := cellk cc1 (bl1 wH1 (.cells #[.slice none 0 0] 26))
          have y1 : (wH1.alloc (.cells #[.slice none 0 0] 26)).drew.cell? ⟨w.heap.size, 0, none⟩ = some (.slice a1 L1.length c1) := z1
          have x1 : (wH1.drew.alloc (.cells #[.slice none 0 0] 26)).cell? ⟨w.heap.size, 0, none⟩ = some (.slice a1 L1.length c1) := z1
          have cc2 := HidR_B2.out
          have d2 : wH1.drew.cell? ⟨w.heap.size + 1, 0, none⟩ = some (.slice a2 L2.length c2) := cc2
          have z2 := cellk cc2 (bl1 wH1 (.cells #[.slice none 0 0] 26))
          have y2 : (wH1.alloc (.cells #[.slice none 0 0] 26)).drew.cell? ⟨w.heap.size + 1, 0, none⟩ = some (.slice a2 L2.length c2) := z2
          have x2 : (wH1.drew.alloc (.cells #[.slice none 0 0] 26)).cell? ⟨w.heap.size + 1, 0, none⟩ = some (.slice a2 L2.length c2) := z2
          go_region_law (first | (go_simp; go_at_call 43; refine (by first | exact HI.out _ _ _ _ _ _ _ _ s1 s2 (NumV_row rfl o3) | exact HI.out _ _ _ _ _ _ _ _ (s1.keep (bl1 w3 (.cells #[.slice none 0 0] 26))) (s2.keep (bl1 w3 (.cells #[.slice none 0 0] 26))) (NumV_row rfl (own_keep o3 (bl1 w3 (.cells #[.slice none 0 0] 26)))) : Calls _ _ _ _ _).mono ?_; rintro ee w4 ⟨v4, rfl, o4, hb4⟩; obtain ⟨a4, n4, hv4⟩ := o4.form; subst hv4; have b4 : Below w3.heap.size w3 w4 := (by first | exact hb4 | exact (bl1 w3 (.cells #[.slice none 0 0] 26)).trans (hb4.mono (by simp))); (first | have hz4 := Bl1.keep hz3 hb4 | have hz4 := (Bl1.new _ (.slice none 0 0)).keep (un_drw hb4) | have hz4 := (Bl1.new _ (.slice none 0 0)).keep hb4 | skip); (first | (have oz4 := hz4.cell; have fz4 := hz4.frozen) | skip)) | (go_simp; go_at_call 31; refine (toFloat32S_any _ _ _ (by first | exact H3.out.keep (bl_call (bl_call ce b1) b2) | exact H3.out.keep (bl_alloc (bl_call (bl_call ce b1) b2) _)) hn3).mono ?_; rintro ee w3 ⟨g3, rfl, l3, o3, hb3⟩; have b3 : Below w2.heap.size w2 w3 := (by first | exact hb3 | exact (bl1 w2 (.cells #[.slice none 0 0] 26)).trans (hb3.mono (by simp))); (first | have hz3 := Bl1.keep hz2 hb3 | have hz3 := (Bl1.new _ (.slice none 0 0)).keep (un_drw hb3) | have hz3 := (Bl1.new _ (.slice none 0 0)).keep hb3 | skip); (first | (have oz3 := hz3.cell; have fz3 := hz3.frozen) | skip); have s1 := (o1.keep b2).keep b3; have s2 := o2.keep b3; have b30 := bl_call (bl_call b1 b2) b3) | (go_simp; go_at_call 24; have hx := o1; refine (toShape_own _ L2 _ (by first | exact H2.out.keep (bl_call ce b1) | exact H2.out.keep (bl_alloc (bl_call ce b1) _)) hL2.out).mono ?_; rintro ee w2 ⟨g2, rfl, o2, hb2⟩; have b2 : Below w1.heap.size w1 w2 := (by first | exact hb2 | exact (bl1 w1 (.cells #[.slice none 0 0] 26)).trans (hb2.mono (by simp))); (first | have hz2 := Bl1.keep hz1 hb2 | have hz2 := (Bl1.new _ (.slice none 0 0)).keep (un_drw hb2) | have hz2 := (Bl1.new _ (.slice none 0 0)).keep hb2 | skip); (first | (have oz2 := hz2.cell; have fz2 := hz2.frozen) | skip)) | (go_simp; go_at_call 24; refine (toShape_own _ L1 _ (by first | exact H1.out.keep (bl_drew ce) | exact H1.out.keep (bl_drew (bl_alloc ce _))) hL1.out).mono ?_; rintro ee w1 ⟨g1, rfl, o1, hb1⟩; have b1 : Below wH1.heap.size wH1 w1 := (by first | exact un_drw hb1 | exact (bl1 wH1 (.cells #[.slice none 0 0] 26)).trans ((un_drw hb1).mono (by simp))); (first | have hz1 := Bl1.keep hz0 hb1 | have hz1 := (Bl1.new _ (.slice none 0 0)).keep (un_drw hb1) | have hz1 := (Bl1.new _ (.slice none 0 0)).keep hb1 | skip); (first | (have oz1 := hz1.cell; have fz1 := hz1.frozen) | skip); have c2_1 := cellk cc2 b1; have c2z_1 := cellk c2_1 (bl1 w1 (.cells #[.slice none 0 0] 26))))
          all_goals (have b40 := bl_call b30 b4; have q1 := b30.size; have q2 := b4.size; have q3 := b1.size; have q4 := b2.size; have q5 := b3.size; go_wp2_with fail; go_meet)
          all_goals first | (have hx := hz4; exact DCut.low rfl rfl hz4 o4 b40 (by first | (have := World.block_lt_of_cell? _ _ hz3.cell; omega) | (have := World.block_lt_of_cell? _ _ hz3.cell; simp at this; omega) | (have := World.block_lt_of_cell? _ _ hz3.cell; simp at this ⊢; omega) | (simp; omega) | (simp; done)) (by first | omega | (simp; omega))) | exact DCut.new rfl rfl o4 b40 (by first | omega | (simp; omega))
        case rest =>
          obtain ⟨rfl, gcR, aR, nR, loR, hiR, rfl, ocR, osR, q1R, q2R, q3R, q4R, hbR⟩ := hcut
          obtain ⟨wR, hwqR⟩ : ∃ x, x = wc := ⟨wc, rfl⟩
          subst hwqR
          have UR_e := HidR_e.out
          clear HidR_e
          have UR_B1 := HidR_B1.out
          clear HidR_B1
          have UR_B2 := HidR_B2.out
          clear HidR_B2
          have UR_P := HidR_P.out
          clear HidR_P
          have UR_cP := HidR_cP.out
          clear HidR_cP
          have UR_cQ := HidR_cQ.out
          clear HidR_cQ
          have UR_KG := HidR_KG.out
          clear HidR_KG
          have q5R : gcR < wR.heap.size := World.block_lt_of_cell? _ _ ocR
          have zR : wH1.heap.size ≤ wR.heap.size := by have := hbR.size; first | exact this | simpa using this
          have e_29 := bl_call UR_e hbR
          have B1_29 := cellk UR_B1 hbR
          have B2_29 := cellk UR_B2 hbR
          have P_29 := UR_P.keep hbR
          have cP_29 := cellk UR_cP hbR
          have cQ_29 := cellk UR_cQ hbR
          have KG_29 := UR_KG.keep hbR
          clear UR_e UR_B1 UR_B2 UR_P UR_cP UR_cQ UR_KG
          clear hbR
          go_wp2_with fail
          refine (eqShape_true _ _ M _ osR.nodes P_29.nodes ht).mono ?_
          rintro e wE3 ⟨rfl, hbwE3⟩
          have zwE3 : wR.heap.size ≤ wE3.heap.size := by have := hbwE3.size; first | exact this | simpa using this
          have e_30 := bl_call e_29 hbwE3
          have B1_30 := cellk B1_29 hbwE3
          have B2_30 := cellk B2_29 hbwE3
          have P_30 := P_29.keep hbwE3
          have cP_30 := cellk cP_29 hbwE3
          have cQ_30 := cellk cQ_29 hbwE3
          have KG_30 := KG_29.keep hbwE3
          have R_30 := osR.keep hbwE3
          have cR_30 := cellk ocR hbwE3
          clear e_29 B1_29 B2_29 P_29 cP_29 cQ_29 KG_29 osR ocR
          clear hbwE3
          clear R_30
          clear P_30
          clear cP_30
          clear cR_30
          go_wp2_with fail
          refine (heldShape_G _ _ _ _ _ KG_30).mono ?_
          rintro e wH2 ⟨rfl, hbH2⟩
          have e_31 := bl_call e_30 hbH2
          have B1_31 := cellk B1_30 hbH2
          have B2_31 := cellk B2_30 hbH2
          have cQ_31 := cellk cQ_30 hbH2
          have KG_31 := KG_30.keep hbH2
          clear e_30 B1_30 B2_30 cQ_30 KG_30
          go_wp2_with fail
          go_ret
          exact ⟨rfl, e_31⟩

theorem own : ownKnob Try.prog.godebug = none := by kernel_rfl
theorem laidOut : laidOutB Try.prog = true := by kernel_rfl

set_option maxRecDepth 100000 in
theorem lifted (os : Os) (started : os.Started) (H : Type) (enc : TypeId × Value → H) :
    ReturnsInHanded {} Try.checked os 10 .any (Rows.fnExactJoinShapesSpec.pre6 enc Try.prog Try.f10 Rows.fnExactJoinShapesRow.domain false) (Rows.fnExactJoinShapesSpec.post enc Try.prog Try.f10 false true false false) := by
  refine returnsInHanded_of_change (C := Try.checked) own started (by kernel_rfl) Try.func10
    (ChangeSpec.witness6 (enc := enc) (C := Try.checked) false ⟨#[], #[.int .i64 0, .agg #[.slice none 0 0], .agg #[.slice none 0 0], .slice none 0 0], []⟩ 8 (by kernel_rfl) (by kernel_rfl) (by kernel_rfl) (by kernel_rfl)) ?_
  intro W base args ds gs before hval0 hW hcnd _
  have hval : ∀ (j : Nat) t v, Try.f10.params[j]? = some t → args[j]? = some v → Value.okWide Try.prog W .any base t v := hval0
  have hW' := hW
  obtain ⟨p, q, hA0, hV, rfl, hfz, hnd⟩ := hW
  have hA : DataW.TrodAll enc Try.prog W 0 (fun _ => true) true Try.f10.params.toList args.toList ds p := hA0
  rw [Try.params10] at hA hval
  obtain ⟨v0, vs0, d0, ds0, p0, q0, hargs, rfl, rfl, h0, r0⟩ := trodAll_cons hA
  obtain ⟨v1, vs1, d1, ds1, p1, q1, rfl, rfl, rfl, h1, r1⟩ := trodAll_cons r0
  obtain ⟨v2, vs2, d2, ds2, p2, q2, rfl, rfl, rfl, h2, r2⟩ := trodAll_cons r1
  obtain ⟨v3, vs3, d3, ds3, p3, q3, rfl, rfl, rfl, h3, r3⟩ := trodAll_cons r2
  obtain ⟨rfl, rfl, rfl⟩ := trodAll_nil r3
  obtain rfl : args = #[v0, v1, v2, v3] := by cases args; simp_all
  obtain ⟨rfl, rfl⟩ := trodVars_none hV
  have k0 := h0
  have lt0 : ∀ x ∈ p0, x.block < W.heap.size := by obtain ⟨m, hm⟩ := k0; exact DataW.trod_lt m _ _ _ hm
  have k1 := h1
  have lt1 : ∀ x ∈ p1, x.block < W.heap.size := by obtain ⟨m, hm⟩ := k1; exact DataW.trod_lt m _ _ _ hm
  have k2 := h2
  have lt2 : ∀ x ∈ p2, x.block < W.heap.size := by obtain ⟨m, hm⟩ := k2; exact DataW.trod_lt m _ _ _ hm
  have k3 := h3
  have lt3 : ∀ x ∈ p3, x.block < W.heap.size := by obtain ⟨m, hm⟩ := k3; exact DataW.trod_lt m _ _ _ hm
  obtain ⟨a0, rfl, rfl, rfl, w0⟩ := open_int Try.underlying2 (hval 0 2 v0 rfl rfl) h0
  obtain ⟨sv1, L1, rfl, w1, s1⟩ := open_shape Try.underlying38 (by kernel_rfl) (by kernel_rfl) rfl Try.underlying36 Try.underlying107 (by kernel_rfl) (by kernel_rfl) Try.underlying2 Try.underlying2 Try.underlying2 Try.underlying46 Try.underlying61 (by kernel_rfl) (hval 1 38 v1 rfl rfl) h1
  obtain ⟨sv2, L2, rfl, w2, s2⟩ := open_shape Try.underlying38 (by kernel_rfl) (by kernel_rfl) rfl Try.underlying36 Try.underlying107 (by kernel_rfl) (by kernel_rfl) Try.underlying2 Try.underlying2 Try.underlying2 Try.underlying46 Try.underlying61 (by kernel_rfl) (hval 2 38 v2 rfl rfl) h2
  obtain ⟨xs3, w3⟩ := open_f32s Try.underlying46 Try.underlying61 (by kernel_rfl) (hval 3 46 v3 rfl rfl) h3
  clear hA0 hval0
  refine (walk a0 w0 sv1 L1 sv2 L2 v3 xs3 W w1 s1 w2 s2 w3).mono fun e W' ⟨he, bel⟩ => ?_
  subst he
  exact ⟨_, rfl, _, _, _, [], _, [], hW', trodAll_mk1 (shut_bool Try.underlying4 _), (trodAll_cons_mk (Below.trod laidOut (by kernel_rfl) (of_decide_eq_true (by kernel_rfl)) k0 bel lt0) (trodAll_cons_mk (Below.trod laidOut (by kernel_rfl) (of_decide_eq_true (by kernel_rfl)) k1 bel lt1) (trodAll_cons_mk (Below.trod laidOut (by kernel_rfl) (of_decide_eq_true (by kernel_rfl)) k2 bel lt2) (trodAll_cons_mk (Below.trod laidOut (by kernel_rfl) (of_decide_eq_true (by kernel_rfl)) k3 bel lt3) trodAll_mk0)))), rfl, bel.frame _, fun h => by cases h⟩

theorem over : Rows.fnExactJoinShapesRow.holds Try.pinned (OpenSpec.ofChange Rows.fnExactJoinShapesSpec) :=
  OpenClaim.holds_of_wide 10 Try.f10 rfl rfl rfl rfl rfl rfl rfl ⟨rfl, rfl, rfl, rfl, rfl⟩ rfl rfl rfl rfl rfl (by kernel_rfl) Try.func10 (by kernel_rfl)
    (of_decide_eq_true (by kernel_rfl)) (by unfold Func.isWrapper; first | (rw [if_pos (by decide +kernel)]; kernel_rfl) | (rw [if_neg (by decide +kernel)]; exact ⟨rfl, rfl⟩))
    (fun os started H enc _ => lifted os started H enc)

theorem proved : Rows.FnExactJoinShapesSaid := over
#print axioms proved
end Go.Proofs.Ytpbccoobkmahlaa.lawJoinShapes
