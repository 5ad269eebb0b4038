/- How much a shape's distance can change, as the program reckons it. No conditions but bounds. -/
import Derived.Test.YtpbccoobkmahlaaFacP
import Derived.StillTailTactics
import Derived.Deep.Cut
import Derived.BigQuiet
namespace Go.Proofs.Ytpbccoobkmahlaa
open Go.Fl Go.RowKit

theorem un_drew {w w' : World} (h : Below w.drew.heap.size w.drew w') : Below w.heap.size w w' := ⟨h.os, h.tape, h.output, h.size, h.block⟩
theorem get_mem {xs : List Nat} {k : Nat} (h : k < xs.length) : xs.getD k 0 ∈ xs := by
  rw [show xs.getD k 0 = xs[k] by simp [h]]; exact List.getElem_mem h
theorem fac_row {w : World} {B k r : Nat} {v : Value} {ys : List Nat} (_ : ys.length = k) (h : w.ownsRow B 61 1 v (k + 1) (ys.map (Value.float .f32) ++ [.float .f32 r])) :
    w.ownsRow B 61 1 v (k + 1) ((ys ++ [r]).map (Value.float .f32)) := by simpa using h
theorem fac_at {w : World} {B g n c A : Nat} {ys : List Nat} (h : w.ownsRow B 61 1 (.slice (some ⟨g, 0, none⟩) n c) n (ys.map (Value.float .f32))) (hA : A < n) (hn : ys.length = n) : w.cell? ⟨g, A, none⟩ = some (.float .f32 (ys.getD A 0)) := by
  rw [h.cellAt A (by omega)]; simp [show A < ys.length by omega]
theorem fsrc2 {w : World} {a : Option Addr} {n cap : Nat} {xs : List Nat} (h : FIn w (.slice a n cap) xs) (hn : 0 < n) : ∃ b o, a = some ⟨b, o, none⟩ ∧ ∀ k, k < n → w.cell? ⟨b, o + k, none⟩ = some (.float .f32 (xs.getD k 0)) := by
  obtain ⟨a', cap', e, he⟩ := h
  injection e with e1 e2 e3
  subst e1 e2
  rcases he with rfl | ⟨b, o, rfl, hc⟩
  · simp at hn
  · exact ⟨b, o, rfl, hc⟩
set_option maxHeartbeats 32000000 in
set_option maxRecDepth 100000 in
theorem factor_any (b : Nat) (v : Value) (L : List Nd) (w : World) (hcell : w.cell? ⟨b, 0, none⟩ = some v) (h : NodesIn w v L) (hV : valid L = true) (hm : Mod L) : Calls Try.prog 76 #[.pointer (some ⟨b, 0, none⟩)] w (FB w .f32 (facV L)) := by
  obtain ⟨i0, hi, hz0, hz1, hz2⟩ := info_parts info_f32
  obtain ⟨av, cv, rfl, _⟩ := id h
  have H := Lib.hid h
  have HV := Lib.hid hV
  have hlm := hm.1
  have hlen := valid_parts hV
  have hn1 := hlen.1
  have hn2 := hlen.2.1
  have hbb : (⟨b, 0, none⟩ : Addr).block < w.heap.size := World.block_lt_of_cell? w _ hcell
  have hbx0 := cellk hcell (bl1 w (.cells #[] 61))
  have hown0 := World.ownsRow_made (base := w.heap.size) (e := 61) (size := 1) w #[] 0 (Nat.le_refl _) (by decide) (by simp)
  clear h hV hm hlen hcell
  go_enter Try.func76, Try.ntmps76
  go_wp2_with fail
  go_loopw [3, 14] (fun v i wr => ∃ (k : Nat) (ys : List Nat), k ≤ L.length ∧ i = .int .i64 k ∧ wr.ownsRow w.heap.size 61 1 v k (ys.map (Value.float .f32)) ∧ Fls ys (facs L k) ∧ Below w.heap.size w wr ∧ wr.cell? ⟨b, 0, none⟩ = some (.slice av L.length cv)) (fun _ i _ => L.length - (intOf i).toNat)
  case atStart => exact ⟨0, [], Nat.zero_le _, rfl, hown0, Fls.nil, bl1 _ _, hbx0⟩
  case round =>
    clear hown0 hbx0
    obtain ⟨k, ys, hk, rfl, hown, hfl, hbw, hbx⟩ := hrel
    have hysl : ys.length = k := by rw [hfl.1, facs_len]
    have hwz := hbw.size
    by_cases hlt : k < L.length
    · obtain ⟨g, p, rfl, hg, hNd⟩ := (H.out.keep hbw).at_ hlt
      obtain ⟨d, hd⟩ : ∃ d, at_ L k = d := ⟨_, rfl⟩
      have hNd2 : NdAt wr g (p + k * 4) d := by rw [← hd]; exact hNd
      have hok : okNd k d = true := by rw [← hd]; exact valid_ok HV.out hlt
      obtain ⟨c0, c1, c2, nv, c3, hF⟩ := id hNd2
      have hkd := okNd_kind hok
      have hnf := nums_fin_of hok
      have Hd := Lib.hid hd
      have HN2 := Lib.hid hNd2
      have Hfl := Lib.hid hfl
      have Hown := Lib.hid hown
      clear hNd hNd2 hd hfl hown
      by_cases h4 : d.k = 4
      · rw [h4] at c0 hnf
        have hx4 : d.xs.length = 4 := hnf.1
        obtain ⟨na, nc, rfl, _⟩ := id hF
        have HFl := Lib.hid hF
        have HC := Lib.hid (childrenOf_any g (p + k * 4) d wr HN2.out)
        rw [show kidsK d.k = 0 by rw [h4]; rfl] at HC
        have HVf := Lib.hid (fac4 (D := facs L k) h4)
        clear hF h4 hnf hkd hok
        go_wp2_with (first | (go_at_call 63; refine (Calls.mono (by exact HC.out) ?_); rintro e w9 ⟨q, rfl, hq, hb9⟩; have d0 := cellk c0 hb9; have d1 := cellk c1 hb9; have d2 := cellk c2 hb9; have d3 := cellk c3 hb9; have dx := cellk hbx hb9))
        have hF9 := HFl.out.keep hb9
        rw [hx4] at hF9 d3
        obtain ⟨bn, on, rfl, n0⟩ := fsrc2 hF9 (by omega)
        have m0 := n0 0 (by omega)
        have m1 := n0 1 (by omega)
        have m2 := n0 2 (by omega)
        rw [Nat.add_zero] at m0
        clear n0 hF9 hx4
        go_still_tail 19, (by kernel_rfl)
        change wpList _ _ _ _ _ w9.drew
        go_wp2_with (first | (go_at_call 96; refine (LongOf_any _ _ _ _).mono ?_; rintro e w10 ⟨r, hr, rfl, hb10⟩; have hbu := un_drew hb10; have own10 := own_keep (own_keep Hown.out hb9) hbu; have bw10 := bl_call (bl_call hbw hb9) hbu; have br10 := bl_call hb9 hbu; have sz10 := bw10.size) | (at_builtin; refine wpList_append_own _ rfl (.tmp 118) (.tmp 120) 46 rfl w.heap.size 61 i0 (.float .f32 0) 1 4 Try.underlying46 hi hz0 hz1 hz2 rfl (by decide) _ k _ rfl (World.ownsRow.alloc own10 _) ⟨(w10).heap.size, 0, none⟩ 1 1 [.float .f32 r] rfl rfl (new1 (w10) _ _) (one1 rfl) (by unfold maxLen; omega) (by omega) (by simp; omega) ?_; intro v' w5 hown' hgrow _))
        have hb3 := grown_below (bl_alloc bw10 _) (World.ownsRow.alloc own10 _) (Nat.le_refl _) hgrow
        have hbx3 := cell_grown_own hbx (World.ownsRow.alloc own10 _) (bl_alloc br10 _) hgrow hbb
        clear hgrow
        go_roundw
        case rel => exact ⟨k + 1, ys ++ [r], by omega, by go_num, fac_row hysl hown', facs_snoc Hd.out Hfl.out HVf.out hr, hb3, hbx3⟩
        case measure => simp [intOf]; omega
      · by_cases h11 : d.k = 11
        · obtain ⟨A, hA, hAk⟩ := a_in hok (by rw [h11]; decide)
          rw [h11] at c0 hnf
          have hx4 : d.xs.length = 3 := hnf.1
          have hfi := hnf.2
          have f0 : isFin (d.xs.getD 0 0) = true := hfi _ (get_mem (by omega))
          have f1 : isFin (d.xs.getD 1 0) = true := hfi _ (get_mem (by omega))
          have f2 : isFin (d.xs.getD 2 0) = true := hfi _ (get_mem (by omega))
          have p0 : ∀ W : World, _ := fun W => run_float_arith (P := Try.prog) W .quo 61 .f32 1065353216 (d.xs.getD 0 0) _ (one_over _ f0)
          have p1 : ∀ W : World, _ := fun W => run_float_arith (P := Try.prog) W .quo 61 .f32 1065353216 (d.xs.getD 1 0) _ (one_over _ f1)
          have p2 : ∀ W : World, _ := fun W => run_float_arith (P := Try.prog) W .quo 61 .f32 1065353216 (d.xs.getD 2 0) _ (one_over _ f2)
          have Hst := Lib.hid (show stF d.xs = grF (grF (fop .quo .f32 oneF (d.xs.getD 0 0)) (fop .quo .f32 oneF (d.xs.getD 1 0))) (fop .quo .f32 oneF (d.xs.getD 2 0)) from rfl)
          obtain ⟨na, nc, rfl, _⟩ := id hF
          have HFl := Lib.hid hF
          have HC := Lib.hid (childrenOf_any g (p + k * 4) d wr HN2.out)
          rw [show kidsK d.k = 1 by rw [h11]; rfl] at HC
          have HVf := Lib.hid (fac11 (D := facs L k) h11 hA)
          have hk0 : 0 < k := by omega
          obtain ⟨gv, cp, hvv, _⟩ := Hown.out.form hk0
          subst hvv
          have hya := Hfl.out.2 A (by omega)
          have hAl := fac_at Hown.out (A := A) hAk hysl
          obtain ⟨y, hy⟩ : ∃ y, ys.getD A 0 = y := ⟨_, rfl⟩
          rw [hy] at hya hAl
          have Hya := Lib.hid hya
          rw [hA] at c1
          clear hF hnf hkd hok hya hy hfi f0 f1 f2 hA
          obtain ⟨q0, hq0⟩ : ∃ q0, fop .quo .f32 oneF (d.xs.getD 0 0) = q0 := ⟨_, rfl⟩
          obtain ⟨q1, hq1⟩ : ∃ q1, fop .quo .f32 oneF (d.xs.getD 1 0) = q1 := ⟨_, rfl⟩
          obtain ⟨q2, hq2⟩ : ∃ q2, fop .quo .f32 oneF (d.xs.getD 2 0) = q2 := ⟨_, rfl⟩
          rw [hq0] at p0 Hst
          rw [hq1] at p1 Hst
          rw [hq2] at p2 Hst
          clear hq0 hq1 hq2 h4 h11
          go_wp2_with (first | (go_at_call 63; refine (Calls.mono (by exact HC.out) ?_); rintro e w9 ⟨q, rfl, hq, hb9⟩; have d0 := cellk c0 hb9; have d1 := cellk c1 hb9; have d2 := cellk c2 hb9; have d3 := cellk c3 hb9; have dx := cellk hbx hb9; have dA := cellk hAl hb9))
          have hF9 := HFl.out.keep hb9
          rw [hx4] at hF9 d3
          obtain ⟨bn, on, rfl, n0⟩ := fsrc2 hF9 (by omega)
          have m0 := n0 0 (by omega)
          have m1 := n0 1 (by omega)
          have m2 := n0 2 (by omega)
          rw [Nat.add_zero] at m0
          clear n0 hF9 hx4
          generalize d.xs.getD 0 0 = x0 at m0 p0
          generalize d.xs.getD 1 0 = x1 at m1 p1
          generalize d.xs.getD 2 0 = x2 at m2 p2
          go_still_tail 30, (by kernel_rfl)
          repeat (first | still_step | still_call (greater_any _ _ _))
          refine wpStill_nil ?_
          change wpList _ _ _ _ _ w9.drew
          go_wp2_with (first | ((with_reducible refine wpList_fop ?_); refine ⟨_, _, _, ⟨rfl, rfl, rfl, rfl⟩, ?_⟩; intro r n hr; have own10 := own_drewN (own_keep Hown.out hb9) (1 + n); have bw10 := bl_drewN (bl_call hbw hb9) (1 + n); have br10 := bl_drewN hb9 (1 + n); have sz10 := Below.size (bl_call hbw hb9)) | (at_builtin; refine wpList_append_own _ rfl (.tmp 118) (.tmp 120) 46 rfl w.heap.size 61 i0 (.float .f32 0) 1 4 Try.underlying46 hi hz0 hz1 hz2 rfl (by decide) _ k _ rfl (World.ownsRow.alloc own10 _) ⟨(w9.drewN (1 + n)).heap.size, 0, none⟩ 1 1 [.float .f32 r] rfl rfl (new1 (w9.drewN (1 + n)) _ _) (one1 rfl) (by unfold maxLen; omega) (by omega) (by simp; omega) ?_; intro v' w5 hown' hgrow _))
          have hb3 := grown_below (bl_alloc bw10 _) (World.ownsRow.alloc own10 _) (Nat.le_refl _) hgrow
          have hbx3 := cell_grown_own hbx (World.ownsRow.alloc own10 _) (bl_alloc br10 _) hgrow hbb
          clear hgrow
          go_roundw
          case rel => exact ⟨k + 1, ys ++ [r], by omega, by go_num, fac_row hysl hown', facs_snoc Hd.out Hfl.out HVf.out (mul_is hr Hya.out Hst.out.symm), hb3, hbx3⟩
          case measure => simp [intOf]; omega
        · have q4 : (d.k == 4) = false := by simpa using h4
          have q11 : (d.k == 11) = false := by simpa using h11
          rcases kids_cases d.k with hK | hK | hK
          · have HVf := Lib.hid (fac0 (D := facs L k) hK h4)
            have HC := Lib.hid (childrenOf_any g (p + k * 4) d wr HN2.out)
            rw [hK] at HC
            clear hF h4 h11 hnf hkd hok hK
            go_wp2_with (first | (go_at_call 63; refine (Calls.mono (by exact HC.out) ?_); rintro e w9 ⟨q, rfl, hq, hb9⟩; have d0 := cellk c0 hb9; have d1 := cellk c1 hb9; have d2 := cellk c2 hb9; have d3 := cellk c3 hb9; have dx := cellk hbx hb9; have own9 := own_keep Hown.out hb9; have bw9 := bl_call hbw hb9; have sz9 := bw9.size) | (at_builtin; refine wpList_append_own _ rfl (.tmp 118) (.tmp 120) 46 rfl w.heap.size 61 i0 (.float .f32 0) 1 4 Try.underlying46 hi hz0 hz1 hz2 rfl (by decide) _ k _ rfl (World.ownsRow.alloc own9 _) ⟨(w9).heap.size, 0, none⟩ 1 1 [.float .f32 1065353216] rfl rfl (new1 (w9) _ _) (one1 rfl) (by unfold maxLen; omega) (by omega) (by simp; omega) ?_; intro v' w5 hown' hgrow _))
            have hb3 := grown_below (bl_alloc bw9 _) (World.ownsRow.alloc own9 _) (Nat.le_refl _) hgrow
            have hbx3 := cell_grown_own hbx (World.ownsRow.alloc own9 _) (bl_alloc hb9 _) hgrow hbb
            clear hgrow
            go_roundw
            case rel => exact ⟨k + 1, ys ++ [1065353216], by omega, by go_num, fac_row hysl hown', facs_snoc Hd.out Hfl.out HVf.out one_is, hb3, hbx3⟩
            case measure => simp [intOf]; omega
          · obtain ⟨A, hA, hAk⟩ := a_in hok (by rw [hK]; omega)
            have HVf := Lib.hid (fac1 (D := facs L k) hK h11 hA)
            have HC := Lib.hid (childrenOf_any g (p + k * 4) d wr HN2.out)
            rw [hK] at HC
            have hk0 : 0 < k := by omega
            obtain ⟨gv, cp, hvv, _⟩ := Hown.out.form hk0
            subst hvv
            have hya := Hfl.out.2 A (by omega)
            have hAl := fac_at Hown.out (A := A) hAk hysl
            obtain ⟨y, hy⟩ : ∃ y, ys.getD A 0 = y := ⟨_, rfl⟩
            rw [hy] at hya hAl
            have Hya := Lib.hid hya
            rw [hA] at c1
            clear hF h4 h11 hnf hkd hok hK hA hya hy
            go_wp2_with (first | (go_at_call 63; refine (Calls.mono (by exact HC.out) ?_); rintro e w9 ⟨q, rfl, hq, hb9⟩; have d0 := cellk c0 hb9; have d1 := cellk c1 hb9; have d2 := cellk c2 hb9; have d3 := cellk c3 hb9; have dx := cellk hbx hb9; have dA := cellk hAl hb9; have own9 := own_keep Hown.out hb9; have bw9 := bl_call hbw hb9; have sz9 := bw9.size) | (at_builtin; refine wpList_append_own _ rfl (.tmp 118) (.tmp 120) 46 rfl w.heap.size 61 i0 (.float .f32 0) 1 4 Try.underlying46 hi hz0 hz1 hz2 rfl (by decide) _ k _ rfl (World.ownsRow.alloc own9 _) ⟨(w9).heap.size, 0, none⟩ 1 1 [.float .f32 y] rfl rfl (new1 (w9) _ _) (one1 rfl) (by unfold maxLen; omega) (by omega) (by simp; omega) ?_; intro v' w5 hown' hgrow _))
            have hb3 := grown_below (bl_alloc bw9 _) (World.ownsRow.alloc own9 _) (Nat.le_refl _) hgrow
            have hbx3 := cell_grown_own hbx (World.ownsRow.alloc own9 _) (bl_alloc hb9 _) hgrow hbb
            clear hgrow
            go_roundw
            case rel => exact ⟨k + 1, ys ++ [y], by omega, by go_num, fac_row hysl hown', facs_snoc Hd.out Hfl.out HVf.out Hya.out, hb3, hbx3⟩
            case measure => simp [intOf]; omega
          · obtain ⟨A, hA, hAk⟩ := a_in hok (by rw [hK]; omega)
            obtain ⟨B, hB, hBk⟩ := b_in hok hK
            have HVf := Lib.hid (fac2 (D := facs L k) hK hA hB)
            have HC := Lib.hid (childrenOf_any g (p + k * 4) d wr HN2.out)
            rw [hK] at HC
            have hk0 : 0 < k := by omega
            obtain ⟨gv, cp, hvv, _⟩ := Hown.out.form hk0
            subst hvv
            have hya := Hfl.out.2 A (by omega)
            have hyb := Hfl.out.2 B (by omega)
            have hAl := fac_at Hown.out (A := A) hAk hysl
            have hBl := fac_at Hown.out (A := B) hBk hysl
            obtain ⟨y, hy⟩ : ∃ y, ys.getD A 0 = y := ⟨_, rfl⟩
            obtain ⟨z, hz⟩ : ∃ z, ys.getD B 0 = z := ⟨_, rfl⟩
            rw [hy] at hya hAl
            rw [hz] at hyb hBl
            have Hg := Lib.hid (grF_is hya hyb)
            rw [hA] at c1
            rw [hB] at c2
            clear hF h4 h11 hnf hkd hok hK hA hB hya hyb hy hz
            go_upto_region 15 with (first | (go_at_call 63; refine (Calls.mono (by exact HC.out) ?_); rintro e w9 ⟨q, rfl, hq, hb9⟩; have d0 := cellk c0 hb9; have d1 := cellk c1 hb9; have d2 := cellk c2 hb9; have d3 := cellk c3 hb9; have dx := cellk hbx hb9; have dA := cellk hAl hb9; have dB := cellk hBl hb9; have own9 := own_keep Hown.out hb9; have bw9 := bl_call hbw hb9; have sz9 := bw9.size))
            go_quiet (first | (go_at_call 97; exact Calls.quiet_of_same (greater_any _ _ _)))
            go_wp2_with (first | (at_builtin; refine wpList_append_own _ rfl (.tmp 118) (.tmp 120) 46 rfl w.heap.size 61 i0 (.float .f32 0) 1 4 Try.underlying46 hi hz0 hz1 hz2 rfl (by decide) _ k _ rfl (World.ownsRow.alloc (own_drewN own9 nq) _) ⟨(w9.drewN nq).heap.size, 0, none⟩ 1 1 [.float .f32 (grF y z)] rfl rfl (new1 (w9.drewN nq) _ _) (one1 rfl) (by unfold maxLen; omega) (by omega) (by simp; omega) ?_; intro v' w5 hown' hgrow _))
            have hb3 := grown_below (bl_alloc (bl_drewN bw9 nq) _) (World.ownsRow.alloc (own_drewN own9 nq) _) (Nat.le_refl _) hgrow
            have hbx3 := cell_grown_own hbx (World.ownsRow.alloc (own_drewN own9 nq) _) (bl_alloc (bl_drewN hb9 nq) _) hgrow hbb
            clear hgrow
            go_roundw
            case rel => exact ⟨k + 1, ys ++ [grF y z], by omega, by go_num, fac_row hysl hown', facs_snoc Hd.out Hfl.out HVf.out Hg.out, hb3, hbx3⟩
            case measure => simp [intOf]; omega
    · obtain rfl : k = L.length := by omega
      obtain ⟨gv, cp, rfl, _⟩ := hown.form (by omega)
      have hya := hfl.2 (L.length - 1) (by omega)
      have hd1 := fac_at hown (A := L.length - 1) (by omega) hysl
      obtain ⟨y, hy⟩ : ∃ y, ys.getD (L.length - 1) 0 = y := ⟨_, rfl⟩
      rw [hy] at hya hd1
      have HX := Lib.hid hya
      have hn3 : ((L.length : Int) - 1) = ((L.length - 1 : Nat) : Int) := by omega
      have hn4 : ((L.length - 1 : Nat) : Int) < L.length := by omega
      have HLa := Lib.hid (last_any b av L.length cv wr hbx (by omega))
      clear hya hy hown hfl hlt
      go_wp2_with (first | (go_at_call 69; refine (Calls.mono (by exact HLa.out) ?_); rintro e w' ⟨rfl, he⟩; subst w'))
      go_ret
      exact ⟨y, HX.out, rfl, hbw⟩
end Go.Proofs.Ytpbccoobkmahlaa
