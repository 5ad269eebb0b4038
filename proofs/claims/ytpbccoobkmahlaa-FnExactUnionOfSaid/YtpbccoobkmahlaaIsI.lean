/- Whether a shape is right, as the program asks it. No conditions but bounds. -/
import Derived.Test.YtpbccoobkmahlaaIsS
import Derived.Test.YtpbccoobkmahlaaQuiet
import Derived.Deep.Cut
import Derived.Deep.DeepCutAuto
namespace Go.Proofs.Ytpbccoobkmahlaa
open Go.Fl Go.RowKit

theorem vs1_any (x : Int) (w : World) : Calls Try.prog 65 #[.int .i64 x] w fun e w' => e = .returned (.bool (x != 1)) ∧ w' = w := by
  go_enter Try.func65, Try.ntmps65
  go_wp2
  go_ret
  exact ⟨rfl, rfl⟩
def oneTo (f : Nat → Nat) (m : Nat) : Bool := (List.range m).all fun j => decide (f j = 1)
theorem oneTo_yes {f : Nat → Nat} {k : Nat} (h : oneTo f k = true) (hk : f k = 1) : oneTo f (k + 1) = true := by
  unfold oneTo at *; rw [List.range_succ, List.all_append, h]; simp [hk]
theorem oneTo_no {f : Nat → Nat} {k m : Nat} (hl : k < m) (hk : ¬ f k = 1) : oneTo f m = false := by
  unfold oneTo; rw [List.all_eq_false]
  exact ⟨k, List.mem_range.2 hl, by simp [hk]⟩
theorem IndexFuncI_any (u m cap : Nat) (f : Nat → Nat) (w : World) (h : ∀ j, j < m → w.cell? ⟨u, j, none⟩ = some (.int .i64 (f j : Nat))) (hm : m ≤ 1048576) :
    Calls Try.prog 92 #[.slice (some ⟨u, 0, none⟩) m cap, .func (.func 65) #[] #[]] w fun e w' => ∃ i : Int, e = .returned (.int .i64 i) ∧ decide (0 ≤ i) = !(oneTo f m) ∧ w' = w := by
  have H := Lib.hid h
  clear h
  go_enter Try.func92, Try.ntmps92
  go_wp2_with fail
  go_loopw [8] (fun i wr => ∃ k : Nat, k ≤ m ∧ i = .int .i64 k ∧ wr = w ∧ RowKit.Hid (oneTo f k = true)) (fun i _ => m - (intOf i).toNat)
  case atStart => exact ⟨0, Nat.zero_le _, rfl, rfl, Lib.hid rfl⟩
  case round =>
    obtain ⟨k, hk, rfl, rfl, hal⟩ := hrel
    by_cases hlt : k < m
    · have hc := H.out k hlt
      obtain ⟨x, hx⟩ : ∃ x, f k = x := ⟨_, rfl⟩
      rw [hx] at hc
      have Hx := Lib.hid hx
      clear hx
      cases hq : ((x : Int) != 1)
      · have HU := Lib.hid (oneTo_yes hal.out (Hx.out.trans (by simp at hq; omega)))
        go_wp2_with (go_at_call 65; refine (vs1_any _ _).mono ?_; rintro e w' ⟨rfl, rfl⟩)
        go_roundw
        case rel => exact ⟨k + 1, by omega, by go_num, trivial, HU⟩
        case measure => simp [intOf]; omega
      · have HN := Lib.hid (oneTo_no (f := f) hlt (by rw [Hx.out]; simp at hq; omega))
        go_wp2_with (go_at_call 65; refine (vs1_any _ _).mono ?_; rintro e w' ⟨rfl, rfl⟩)
        go_ret
        exact ⟨_, rfl, by rw [HN.out]; simp, rfl⟩
    · obtain rfl : k = m := by omega
      go_wp2_with fail
      go_ret
      exact ⟨_, rfl, by rw [hal.out]; simp, rfl⟩
theorem ContainsFuncI_any (u m cap : Nat) (f : Nat → Nat) (w : World) (h : ∀ j, j < m → w.cell? ⟨u, j, none⟩ = some (.int .i64 (f j : Nat))) (hm : m ≤ 1048576) :
    Calls Try.prog 64 #[.slice (some ⟨u, 0, none⟩) m cap, .func (.func 65) #[] #[]] w fun e w' => e = .returned (.bool (!(oneTo f m))) ∧ w' = w := by
  have HC := Lib.hid (IndexFuncI_any u m cap f w h hm)
  clear h
  go_enter Try.func64, Try.ntmps64
  go_wp2_with (go_at_call 92; refine (Calls.mono (by exact HC.out) ?_); rintro e w' ⟨i, rfl, hi, rfl⟩)
  go_ret
  exact ⟨rfl, rfl⟩
/-- The m-th child of a node. -/
def kd (d : Nd) (m : Nat) : Int := if m = 0 then d.a else d.b
theorem kidsOf_is (d : Nd) : kidsOf d = (List.range (kidsK d.k)).map (kd d) := by
  unfold kidsOf
  rcases kids_cases d.k with h | h | h <;> rw [h] <;> rfl
/-- What has been named when the k-th node's first m children are. -/
def nm (L : List Nd) (k m : Nat) : List Nat := named L k ++ (List.range m).map fun j => (kd (at_ L k) j).toNat
theorem nm_zero (L : List Nd) (k : Nat) : nm L k 0 = named L k := by simp [nm]
theorem nm_succ {L : List Nd} {k m A : Nat} {d : Nd} (hd : at_ L k = d) (h : kd d m = (A : Nat)) : nm L k (m + 1) = nm L k m ++ [A] := by
  simp [nm, List.range_succ, hd, h]
theorem nm_full {L : List Nd} {k : Nat} {d : Nd} (hd : at_ L k = d) : nm L k (kidsK d.k) = named L (k + 1) := by
  simp [nm, named, hd, kidsOf_is]
theorem nm_small (L : List Nd) {k m : Nat} (hk : k ≤ 16) (hm : m ≤ 2) : (nm L k m).length ≤ 34 := by
  have := named_len L k
  simp [nm]; omega
def inTo (i : Nat) (d : Nd) (m : Nat) : Bool := (List.range m).all fun j => inB (kd d j) 0 ((i : Int) - 1)
theorem inTo_yes {i m : Nat} {d : Nd} (h : inTo i d m = true) (hk : inB (kd d m) 0 ((i : Int) - 1) = true) : inTo i d (m + 1) = true := by
  unfold inTo at *; rw [List.range_succ, List.all_append, h]; simp [hk]
theorem okNd_is {i : Nat} {d : Nd} (h1 : (okK d.k && numsB d.k d.xs) = true) (h2 : axB d = true) : okNd i d = inTo i d (kidsK d.k) := by
  simp only [Bool.and_eq_true] at h1
  simp [okNd, h1.1, h1.2, h2, kidsOf_is, inTo, List.all_map, Function.comp_def]
theorem okNd_no1 {i : Nat} {d : Nd} (h1 : (okK d.k && numsB d.k d.xs) = false) : okNd i d = false := by
  simp only [Bool.and_eq_false_iff] at h1
  exact okNd_bad h1
theorem okNd_no2 {i : Nat} {d : Nd} (h2 : axB d = false) : okNd i d = false := by simp [okNd, h2]
theorem okNd_no3 {i m : Nat} {d : Nd} (hm : m < kidsK d.k) (h : inB (kd d m) 0 ((i : Int) - 1) = false) : okNd i d = false := by
  have : (kidsOf d).all (fun c => inB c 0 ((i : Int) - 1)) = false := by
    rw [kidsOf_is, List.all_map, List.all_eq_false]
    exact ⟨m, List.mem_range.2 hm, by simp [h]⟩
  simp [okNd, this]
theorem kd_in {i m : Nat} {d : Nd} (h : inB (kd d m) 0 ((i : Int) - 1) = true) : ∃ A : Nat, kd d m = (A : Nat) ∧ A < i := by
  simp only [inB, Bool.and_eq_true, decide_eq_true_eq] at h
  exact ⟨(kd d m).toNat, by omega, by omega⟩
theorem kd_cell {w : World} {q m : Nat} {d : Nd} (h : w.cell? ⟨q, 0, none⟩ = some (.int .i64 d.a) ∧ w.cell? ⟨q, 1, none⟩ = some (.int .i64 d.b)) (hm : m < kidsK d.k) : w.cell? ⟨q, m, none⟩ = some (.int .i64 (kd d m)) := by
  have := kids_le d.k
  rcases (show m = 0 ∨ m = 1 by omega) with rfl | rfl
  · exact h.1
  · exact h.2
theorem info_int : (Try.prog.info? 3).map (fun i => (i.zero, i.size, i.bytes)) = some (some (.int .i64 0), 1, 8) := by kernel_rfl
theorem keepN {wr w1 w2 : World} {g p : Nat} {d : Nd} {nv : Value} (h : w1.cell? ⟨g, p, none⟩ = some (.int .i64 d.k) ∧ w1.cell? ⟨g, p + 3, none⟩ = some nv ∧ FIn w1 nv d.xs ∧ NdAt w1 g p d ∧ Below wr.heap.size wr w1) (hb : Below w1.heap.size w1 w2) :
    w2.cell? ⟨g, p, none⟩ = some (.int .i64 d.k) ∧ w2.cell? ⟨g, p + 3, none⟩ = some nv ∧ FIn w2 nv d.xs ∧ NdAt w2 g p d ∧ Below wr.heap.size wr w2 :=
  ⟨cellk h.1 hb, cellk h.2.1 hb, h.2.2.1.keep hb, h.2.2.2.1.keep hb, bl_call h.2.2.2.2 hb⟩
theorem numbersOk_at {k : Int} {xs : List Nat} {b : Bool} (h0 : (okK k && numsB k xs) = b) (v : Value) (w : World) (h : FIn w v xs) (hn : xs.length ≤ 1048576) : Calls Try.prog 61 #[.int .i64 k, v] w (BB w b) := by
  subst h0; exact numbersOk_any k v xs w h hn
theorem axisOk_at {d : Nd} {b : Bool} (h0 : axB d = b) (g o : Nat) (w : World) (h : NdAt w g o d) : Calls Try.prog 62 #[.pointer (some ⟨g, o, none⟩)] w (BB w b) := by
  subst h0; exact axisOk_any g o d w h
theorem in_at {n lo hi : Int} {b : Bool} (h : inB n lo hi = b) (w : World) : Calls Try.prog 51 #[.int .i64 n, .int .i64 lo, .int .i64 hi] w fun e w' => e = .returned (.bool b) ∧ w' = w := by
  subst h; exact in_any n lo hi w
theorem hbl0_below {w w' : World} (h : w.grownBy w' none) : Below w.heap.size w w' := ⟨h.os, h.tape, h.output, h.size, fun k hk => h.block k hk (by simp)⟩
set_option maxHeartbeats 8000000 in
set_option maxRecDepth 100000 in
theorem ValidShape_any (v : Value) (L : List Nd) (w : World) (h : NodesIn w v L) (hm : Mod L) : Calls Try.prog 27 #[.agg #[v]] w (BB w (valid L)) := by
  obtain ⟨i0, hi, hz0, hz1, hz2⟩ := info_parts info_int
  obtain ⟨av, cv, rfl, _⟩ := id h
  have H := Lib.hid h
  have HM := Lib.hid hm
  have hlm := hm.1
  clear h hm
  cases hin : inB (L.length : Int) 1 16
  · have HV := Lib.hid (valid_len (L := L) (by unfold inB at hin; simp at hin; omega))
    have HI := Lib.hid (fun W => in_at hin W)
    clear hin
    go_enter Try.func27, Try.ntmps27
    go_wp2_with (go_at_call 51; refine (Calls.mono (by exact HI.out _) ?_); rintro e w' ⟨rfl, rfl⟩)
    go_ret
    exact ⟨ret_bool HV.out.symm, bl1 _ _⟩
  · have HL := Lib.hid (show 1 ≤ L.length ∧ L.length ≤ 16 by unfold inB at hin; simp at hin; omega)
    have HI := Lib.hid (fun W => in_at hin W)
    clear hin
    have hb2 : i0.bytes * L.length ≤ 281474976710656 := by rw [hz2]; omega
    have hb3 : L.length ≤ maxLen := by unfold maxLen; omega
    have hbl0 := bl1 w (.cells #[.slice av L.length cv] 26)
    have hbx := box1 w (.slice av L.length cv) 26
    have hsz0 : w.heap.size ≤ (w.alloc (.cells #[.slice av L.length cv] 26)).heap.size := hbl0.size
    go_enter Try.func27, Try.ntmps27
    go_wp2_with (first | (go_at_call 51; refine (Calls.mono (by exact HI.out _) ?_); rintro e w' ⟨rfl, rfl⟩) | (at_make; refine wpList_make_full _ rfl _ _ 82 rfl w.heap.size 3 i0 (.int .i64 0) 1 Try.underlying82 hi hz0 hz1 .i64 .i64 _ _ L.length rfl rfl rfl rfl hb2 hb3 hsz0 ?_; intro w1 hown hgrow; have hbx1 := cellk hbx (hbl0_below hgrow)))
    rw [cntRow_zero] at hown
    have hbl := hbl0.grown hgrow hsz0 (fun k hk => by cases hk)
    clear hgrow hbl0 hbx
    go_loopw [21] (fun i wr => ∃ k : Nat, k ≤ L.length ∧ i = .int .i64 k ∧ wr.ownsRow w.heap.size 3 1 (.slice (some ⟨w.heap.size + 1, 0, none⟩) L.length L.length) L.length (cntRow L.length (named L k)) ∧ Below w.heap.size w wr ∧ wr.cell? ⟨w.heap.size, 0, none⟩ = some (.slice av L.length cv) ∧ RowKit.Hid (okTo L k = true)) (fun i _ => L.length - (intOf i).toNat)
    case atStart => exact ⟨0, Nat.zero_le _, rfl, by simpa [named] using hown, hbl, hbx1, Lib.hid rfl⟩
    case round =>
      clear hown hbl hbx1 hsz0
      obtain ⟨k, hk, rfl, hown, hbw, hbx, hto⟩ := hrel
      by_cases hlt : k < L.length
      · obtain ⟨g, p, rfl, hg, hNd⟩ := (H.out.keep hbw).at_ hlt
        obtain ⟨d, hd⟩ : ∃ d, at_ L k = d := ⟨_, rfl⟩
        have hNd2 : NdAt wr g (p + k * 4) d := by rw [← hd]; exact hNd
        have hdx : d.xs.length ≤ 1048576 := by rw [← hd]; exact HM.out.num hlt
        clear hNd
        obtain ⟨c0, c1, c2, nv, c3, hF⟩ := id hNd2
        obtain ⟨nva, nvc, rfl, _⟩ := id hF
        have HN2 := Lib.hid hNd2
        have Hown := Lib.hid hown
        have Hd := Lib.hid hd
        have HF1 := Lib.hid hF
        have f0 := fun q : BW wr => BW.cell c0 q
        have f3 := fun q : BW wr => BW.cell c3 q
        clear hNd2 hown hd hF c0 c1 c2 c3
        cases hok1 : (okK d.k && numsB d.k d.xs)
        · have HF := Lib.hid (okTo_no hlt (by rw [Hd.out]; exact okNd_no1 hok1))
          have HC1 := Lib.hid (fun W hW => numbersOk_at hok1 (.slice nva d.xs.length nvc) W hW hdx)
          clear hok1
          go_upto_region 8 with fail
          refine wp_region_bw (by kernel_rfl) (by kernel_rfl) ?_
          repeat (go_big_quiet_step (first | (go_at_call 61; exact BW.calls (HC1.out _ (HF1.out.keep (BW.h _))))))
          refine wpQuiet_nil ?_
          intro w8 hw'
          have hb8 : Below wr.heap.size wr w8 := by obtain ⟨q, rfl⟩ := hw'; exact q.h
          clear hw'
          go_wp2_with fail
          go_ret
          exact ⟨ret_bool HF.out.symm, bl_call hbw hb8⟩
        · have HC1 := Lib.hid (fun W hW => numbersOk_at hok1 (.slice nva d.xs.length nvc) W hW hdx)
          have Hok1 := Lib.hid hok1
          clear hok1
          cases hok2 : axB d
          · have HF := Lib.hid (okTo_no hlt (by rw [Hd.out]; exact okNd_no2 hok2))
            have HC2 := Lib.hid (fun W hW => axisOk_at hok2 g (p + k * 4) W hW)
            clear hok2
            go_upto_region 8 with fail
            refine wp_region_bw (by kernel_rfl) (by kernel_rfl) ?_
            repeat (go_big_quiet_step (first | (go_at_call 61; exact BW.calls (HC1.out _ (HF1.out.keep (BW.h _)))) | (go_at_call 62; exact BW.calls (HC2.out _ (HN2.out.keep (BW.h _))))))
            refine wpQuiet_nil ?_
            intro w8 hw'
            have hb8 : Below wr.heap.size wr w8 := by obtain ⟨q, rfl⟩ := hw'; exact q.h
            clear hw'
            go_wp2_with fail
            go_ret
            exact ⟨ret_bool HF.out.symm, bl_call hbw hb8⟩
          · have HC2 := Lib.hid (fun W hW => axisOk_at hok2 g (p + k * 4) W hW)
            have Hok := Lib.hid (okNd_is (i := k) Hok1.out hok2)
            clear hok2
            go_upto_region 8 with fail
            refine wp_region_bw (by kernel_rfl) (by kernel_rfl) ?_
            repeat (go_big_quiet_step (first | (go_at_call 61; exact BW.calls (HC1.out _ (HF1.out.keep (BW.h _)))) | (go_at_call 62; exact BW.calls (HC2.out _ (HN2.out.keep (BW.h _))))))
            refine wpQuiet_nil ?_
            intro w8 hw'
            have hb8 : Below wr.heap.size wr w8 := by obtain ⟨q, rfl⟩ := hw'; exact q.h
            clear hw'
            go_wp2_with fail
            refine (childrenOf_any g (p + k * 4) d _ (HN2.out.keep hb8)).mono ?_
            rintro e w9 ⟨q, rfl, hq, hb9⟩
            have hown9 := own_keep (own_keep Hown.out hb8) hb9
            have hbw9 := bl_call (bl_call hbw hb8) hb9
            have hbx9 := cellk (cellk hbx hb8) hb9
            have hsz9 := hbw9.size
            have hqs := hq.1
            have hs8 := bl_call hbw hb8
            have hsq : w.heap.size + 1 < q := by
              have h1 := (Hown.out.lt (w.heap.size + 1) rfl).2
              have h2 := hb8.size
              omega
            have hkc := hq.2
            have hK2 := kids_le d.k
            obtain ⟨K, hK⟩ : ∃ K, kidsK d.k = K := ⟨_, rfl⟩
            rw [hK] at hK2
            have HKK := Lib.hid hK
            rw [hK] at Hok
            rw [hK]
            clear hK hq hqs hs8 hb8 hb9 hsz9 HC1 HC2 f0 f3 HF1
            go_wp2_with fail
            go_loopw [46] (fun i wi => ∃ m : Nat, m ≤ K ∧ i = .int .i64 m ∧ wi.ownsRow w.heap.size 3 1 (.slice (some ⟨w.heap.size + 1, 0, none⟩) L.length L.length) L.length (cntRow L.length (nm L k m)) ∧ Below w.heap.size w wi ∧ wi.cell? ⟨w.heap.size, 0, none⟩ = some (.slice (some ⟨g, p, none⟩) L.length cv) ∧ wi.cell? ⟨q, 0, none⟩ = some (.int .i64 d.a) ∧ wi.cell? ⟨q, 1, none⟩ = some (.int .i64 d.b) ∧ RowKit.Hid (inTo k d m = true)) (fun i _ => K - (intOf i).toNat)
            case atStart => exact ⟨0, Nat.zero_le _, rfl, by rw [nm_zero]; exact hown9, hbw9, hbx9, hkc.1, hkc.2, Lib.hid rfl⟩
            case round =>
              clear hown9 hbw9 hbx9 hkc hbw hbx
              obtain ⟨m, hm, rfl, hown, hbw, hbx, ha, hb, hto2⟩ := hrel
              by_cases hlm : m < K
              · have hcell := kd_cell ⟨ha, hb⟩ (show m < kidsK d.k by rw [HKK.out]; exact hlm)
                cases hin : inB (kd d m) 0 ((k : Int) - 1)
                · have HF := Lib.hid (okTo_no hlt (by rw [Hd.out]; exact okNd_no3 (show m < kidsK d.k by rw [HKK.out]; exact hlm) hin))
                  have HI2 := Lib.hid (fun W => in_at hin W)
                  clear hin ha hb
                  go_wp2_with (go_at_call 51; refine (Calls.mono (by exact HI2.out _) ?_); rintro e w' ⟨rfl, rfl⟩)
                  go_ret
                  exact ⟨ret_bool HF.out.symm, hbw⟩
                · obtain ⟨A, hA, hAk⟩ := kd_in hin
                  have HT2 := Lib.hid (inTo_yes hto2.out hin)
                  have Hnm := Lib.hid (nm_succ Hd.out hA)
                  rw [hA] at hin hcell
                  have HI2 := Lib.hid (fun W => in_at hin W)
                  obtain ⟨cA, hcA, hd1, hf1, hst⟩ := bump hown (A := A) (by omega) (nm_small L (by have := HL.out; omega) (by omega))
                  have k0 := cellfar hbx (show w.heap.size + 1 ≠ w.heap.size by omega) A (.int .i64 ((cA : Nat) + 1 : Int))
                  have k1 := cellfar ha (show w.heap.size + 1 ≠ q by omega) A (.int .i64 ((cA : Nat) + 1 : Int))
                  have k2 := cellfar hb (show w.heap.size + 1 ≠ q by omega) A (.int .i64 ((cA : Nat) + 1 : Int))
                  clear hin hA hown ha hb hbx
                  go_wp2_with (go_at_call 51; refine (Calls.mono (by exact HI2.out _) ?_); rintro e w' ⟨rfl, rfl⟩)
                  go_roundw
                  case rel => exact ⟨m + 1, by omega, by go_num, by rw [Hnm.out]; exact hst, bl_set hbw (by simp) _, k0, k1, k2, HT2⟩
                  case measure => simp [intOf]; omega
              · obtain rfl : m = K := by omega
                have HT := Lib.hid (okTo_yes hto.out (by rw [Hd.out, Hok.out]; exact hto2.out))
                have Hn := Lib.hid (nm_full Hd.out)
                rw [HKK.out] at Hn
                rw [Hn.out] at hown
                clear ha hb hlm
                go_wp2_with fail
                go_roundw
                case rel => exact ⟨k + 1, by omega, by go_num, hown, hbw, hbx, HT⟩
                case measure => simp [intOf]; omega
      · obtain rfl : k = L.length := by omega
        have HV := Lib.hid (valid_eq HL.out hto.out)
        have hlast := (hown.cellAt (L.length - 1) (by have := HL.out; omega)).trans (cntRow_get (named L L.length) (by have := HL.out; omega))
        rw [last_free hto.out] at hlast
        have HC := Lib.hid (ContainsFuncI_any (w.heap.size + 1) (L.length - 1) L.length (fun j => (named L L.length).count j) wr (fun j hj => (hown.cellAt j (by omega)).trans (cntRow_get (named L L.length) (by omega))) (by have := HL.out; omega))
        have hn1 : ((L.length : Int) - 1) = ((L.length - 1 : Nat) : Int) := by have := HL.out; omega
        have hn2 : ((L.length - 1 : Nat) : Int) < L.length := by have := HL.out; omega
        have hn3 := HL.out.1
        clear hto hlt hown
        go_wp2_with (go_at_call 64; refine (Calls.mono (by exact HC.out) ?_); rintro e w' ⟨rfl, rfl⟩)
        go_ret
        exact ⟨ret_bool (by rw [HV.out]; simp [oneTo, onceTo]), hbw⟩
end Go.Proofs.Ytpbccoobkmahlaa
