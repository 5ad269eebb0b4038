/- Which nodes lie below a node, as both sides ask it. No conditions but bounds. -/
import Derived.Test.YtpbccoobkmahlaaPartM
namespace Go.Proofs.Ytpbccoobkmahlaa
open Go.Fl Go.RowKit

/-- A call's answer that is a row of truths. -/
def FOut (w : World) (n : Nat) (F : Nat → Bool) : Ending → World → Prop := fun e w' => ∃ u, e = .returned u ∧ RowF w' u n F ∧ Below w.heap.size w w'
set_option maxHeartbeats 8000000 in
set_option maxRecDepth 100000 in
theorem l02Below_any (b n : Nat) (v : Value) (L : List Nd) (w : World) (hcell : w.cell? ⟨b, 0, none⟩ = some v) (h : NodesIn w v L) (hV : valid L = true) (hn : n < L.length) :
    Calls Try.prog 78 #[.pointer (some ⟨b, 0, none⟩), .int .i64 (n : Nat)] w (FOut w L.length (partF L n)) := by
  obtain ⟨i0, hi, hz0, hz1, hz2⟩ := info_parts info_bool
  obtain ⟨av, cv, rfl, _⟩ := id h
  have H := Lib.hid h
  have HV := Lib.hid hV
  have HC := Lib.hid hcell
  have hlen := (valid_parts hV).2.1
  have hb2 : i0.bytes * L.length ≤ 281474976710656 := by rw [hz2]; omega
  have hb3 : L.length ≤ maxLen := by unfold maxLen; omega
  have HR := Lib.hid (show partF L n = runB L (n + 1) (oneF n) from runB_down L n _ (by omega))
  generalize partF L n = R at HR ⊢
  clear h hV
  go_enter Try.func78, Try.ntmps78
  go_wp2_with (at_make; refine wpList_make_full _ rfl _ _ 100 rfl w.heap.size 4 i0 (.bool false) 1 Try.underlying100 hi hz0 hz1 .i64 .i64 _ _ L.length rfl rfl rfl rfl hb2 hb3 (Nat.le_refl _) ?_; intro w1 hown hgrow; rw [rowB_zero] at hown; obtain ⟨hc1, hf1, hst⟩ := bumpB hown hn; have hb1 := hbl0_below hgrow)
  rw [setF_zero] at hst
  have hb4 := bl_set hb1 (a := ⟨w.heap.size, n, none⟩) (Nat.le_refl _) (.bool true)
  clear hgrow hcell hown hc1 hf1 hb1
  go_loopw [6] (fun i wr => ∃ (z : Int) (F : Nat → Bool), i = .int .i64 z ∧ (-1 : Int) ≤ z ∧ z < (L.length : Int) ∧ wr.ownsRow w.heap.size 4 1 (.slice (some ⟨w.heap.size, 0, none⟩) L.length L.length) L.length (rowB L.length F) ∧ Below w.heap.size w wr ∧ RowKit.Hid (runB L (Int.toNat (z + 1)) F = R)) (fun i _ => (1 + intOf i).toNat)
  case atStart => exact ⟨(n : Nat), _, rfl, by omega, by omega, hst, hb4, Lib.hid (by rw [HR.out]; rfl)⟩
  case round =>
    clear hst hb4
    obtain ⟨z, F, rfl, hz3, hz4, hown, hbw, hR⟩ := hrel
    by_cases hz5 : 0 ≤ z
    · obtain ⟨k, rfl⟩ : ∃ k : Nat, z = (k : Nat) := ⟨z.toNat, by omega⟩
      have hR2 := Lib.hid (show runB L (k + 1) F = R from hR.out)
      have hlt : k < L.length := by omega
      have hcb := cellk HC.out hbw
      obtain ⟨g, p, rfl, hg, hNd⟩ := (H.out.keep hbw).at_ hlt
      obtain ⟨d, hd⟩ : ∃ d, at_ L k = d := ⟨_, rfl⟩
      have hNd2 : NdAt wr g (p + k * 4) d := by rw [← hd]; exact hNd
      have hok : okNd k d = true := by rw [← hd]; exact valid_ok HV.out hlt
      have hkd := okNd_kind hok
      obtain ⟨c0, c1, c2⟩ := hNd2.facts
      have hgw : g < w.heap.size := by obtain ⟨g', p', e', hg', _⟩ := H.out.at_ hlt; injection e' with e'; injection e' with e1 e2; omega
      have Hd := Lib.hid hd
      clear hNd hNd2 hd hR hz3 hz4 hz5
      cases hF : F k
      · have hrd := readB hown hlt hF
        have HR3 := Lib.hid (show runB L k F = R by rw [← runB_no hF]; exact hR2.out)
        clear hok hkd hF
        go_wp2_with fail
        go_roundw
        case rel => exact ⟨(k : Int) - 1, F, rfl, by omega, by omega, hown, hbw, Lib.hid (by rw [show ((k : Int) - 1 + 1).toNat = k by omega]; exact HR3.out)⟩
        case measure => simp [intOf]; omega
      · have hrd := readB hown hlt hF
        cases hlf : leafK d.k
        · cases htw : twoK d.k
          · have hK := kids1 hkd hlf htw
            obtain ⟨A, hA, hAk⟩ := a_in hok (by rw [hK]; omega)
            have HR3 := Lib.hid (show runB L k (setF F A) = R by rw [← stK_one hA, ← runB_yes hF Hd.out hK]; exact hR2.out)
            have Hl := Lib.hid (fun W => l02Leaf_at hlf W)
            have Ht := Lib.hid (fun W => l02Two_at htw W)
            rw [hA] at c1
            obtain ⟨hc1, hf1, hst⟩ := bumpB hown (k := A) (by omega)
            have m0 := cellfar c0 (show w.heap.size ≠ g by omega) A (.bool true)
            clear hok hkd hlf htw hK hA hF
            go_wp2_with (first | (go_at_call 66; refine (Calls.mono (by exact Hl.out _) ?_); rintro e w' ⟨rfl, he⟩; subst w') | (go_at_call 67; refine (Calls.mono (by exact Ht.out _) ?_); rintro e w' ⟨rfl, he⟩; subst w'))
            go_roundw
            case rel => exact ⟨(k : Int) - 1, _, rfl, by omega, by omega, hst, bl_set hbw (Nat.le_refl _) _, Lib.hid (by rw [show ((k : Int) - 1 + 1).toNat = k by omega]; exact HR3.out)⟩
            case measure => simp [intOf]; omega
          · have hK := kids2 htw
            obtain ⟨A, hA, hAk⟩ := a_in hok (by rw [hK]; omega)
            obtain ⟨B, hB, hBk⟩ := b_in hok hK
            have HR3 := Lib.hid (show runB L k (setF (setF F A) B) = R by rw [← stK_two hA hB, ← runB_yes hF Hd.out hK]; exact hR2.out)
            have Hl := Lib.hid (fun W => l02Leaf_at hlf W)
            have Ht := Lib.hid (fun W => l02Two_at htw W)
            rw [hA] at c1
            rw [hB] at c2
            obtain ⟨hc1, hf1, hst1⟩ := bumpB hown (k := A) (by omega)
            obtain ⟨hc2, hf2, hst⟩ := bumpB hst1 (k := B) (by omega)
            have m0 := cellfar c0 (show w.heap.size ≠ g by omega) A (.bool true)
            have m2 := cellfar c2 (show w.heap.size ≠ g by omega) A (.bool true)
            clear hok hkd hlf htw hK hA hB hF
            go_wp2_with (first | (go_at_call 66; refine (Calls.mono (by exact Hl.out _) ?_); rintro e w' ⟨rfl, he⟩; subst w') | (go_at_call 67; refine (Calls.mono (by exact Ht.out _) ?_); rintro e w' ⟨rfl, he⟩; subst w'))
            go_roundw
            case rel => exact ⟨(k : Int) - 1, _, rfl, by omega, by omega, hst, bl_set (bl_set hbw (Nat.le_refl _) _) (Nat.le_refl _) _, Lib.hid (by rw [show ((k : Int) - 1 + 1).toNat = k by omega]; exact HR3.out)⟩
            case measure => simp [intOf]; omega
        · have hK := kids0 hkd hlf
          have HR3 := Lib.hid (show runB L k F = R by rw [← stK_zero F d, ← runB_yes hF Hd.out hK]; exact hR2.out)
          have Hl := Lib.hid (fun W => l02Leaf_at hlf W)
          clear hok hkd hlf hK hF
          go_wp2_with (first | (go_at_call 66; refine (Calls.mono (by exact Hl.out _) ?_); rintro e w' ⟨rfl, he⟩; subst w'))
          go_roundw
          case rel => exact ⟨(k : Int) - 1, F, rfl, by omega, by omega, hown, hbw, Lib.hid (by rw [show ((k : Int) - 1 + 1).toNat = k by omega]; exact HR3.out)⟩
          case measure => simp [intOf]; omega
    · obtain rfl : z = -1 := by omega
      have hR2 : F = R := hR.out
      clear hR hz3 hz4 hz5
      go_wp2_with fail
      go_ret
      refine ⟨_, rfl, ?_, hbw⟩
      rw [← hR2]
      exact RowF.of hown
theorem itself_any (x : Int) (w : World) : Calls Try.prog 81 #[.int .i64 x] w fun e w' => e = .returned (.int .i64 x) ∧ w' = w := by
  go_enter Try.func81, Try.ntmps81
  go_wp2
  go_ret
  exact ⟨rfl, rfl⟩
set_option maxHeartbeats 8000000 in
set_option maxRecDepth 100000 in
theorem below_any (b n : Nat) (v : Value) (L : List Nd) (w : World) (hcell : w.cell? ⟨b, 0, none⟩ = some v) (h : NodesIn w v L) (hV : valid L = true) (hn : n < L.length) :
    Calls Try.prog 80 #[.pointer (some ⟨b, 0, none⟩), .int .i64 (n : Nat), .func (.func 81) #[] #[]] w (FOut w L.length (partF L n)) := by
  obtain ⟨i0, hi, hz0, hz1, hz2⟩ := info_parts info_bool
  obtain ⟨av, cv, rfl, _⟩ := id h
  have H := Lib.hid h
  have HV := Lib.hid hV
  have HC := Lib.hid hcell
  have hlen := (valid_parts hV).2.1
  have hb2 : i0.bytes * L.length ≤ 281474976710656 := by rw [hz2]; omega
  have hb3 : L.length ≤ maxLen := by unfold maxLen; omega
  have HR := Lib.hid (show partF L n = runB L L.length (oneF n) from rfl)
  generalize partF L n = R at HR ⊢
  clear h hV
  go_enter Try.func80, Try.ntmps80
  go_wp2_with (first | (at_make; refine wpList_make_full _ rfl _ _ 100 rfl w.heap.size 4 i0 (.bool false) 1 Try.underlying100 hi hz0 hz1 .i64 .i64 _ _ L.length rfl rfl rfl rfl hb2 hb3 (Nat.le_refl _) ?_; intro w1 hown hgrow; rw [rowB_zero] at hown; obtain ⟨hc1, hf1, hst⟩ := bumpB hown hn; have hb1 := hbl0_below hgrow; have hbx1 := cellk hcell hb1; have hbb : b < w.heap.size := World.block_lt_of_cell? w _ hcell; have hbx2 := cellfar hbx1 (u := w.heap.size) (by omega) n (.bool true)) | (go_at_call 81; refine (itself_any _ _).mono ?_; rintro e w' ⟨rfl, he⟩; subst w'))
  rw [setF_zero] at hst
  have hb4 := bl_set hb1 (a := ⟨w.heap.size, n, none⟩) (Nat.le_refl _) (.bool true)
  clear hgrow hcell hown hc1 hf1 hb1 hbx1 hbx2 hbb
  go_loopw [8] (fun i wr => ∃ (z : Int) (F : Nat → Bool), i = .int .i64 z ∧ (-1 : Int) ≤ z ∧ z < (L.length : Int) ∧ wr.ownsRow w.heap.size 4 1 (.slice (some ⟨w.heap.size, 0, none⟩) L.length L.length) L.length (rowB L.length F) ∧ Below w.heap.size w wr ∧ RowKit.Hid (runB L (Int.toNat (z + 1)) F = R)) (fun i _ => (1 + intOf i).toNat)
  case atStart => exact ⟨(L.length : Int) - 1, _, rfl, by omega, by omega, hst, hb4, Lib.hid (by rw [HR.out]; congr 1; omega)⟩
  case round =>
    clear hst hb4
    obtain ⟨z, F, rfl, hz3, hz4, hown, hbw, hR⟩ := hrel
    by_cases hz5 : 0 ≤ z
    · obtain ⟨k, rfl⟩ : ∃ k : Nat, z = (k : Nat) := ⟨z.toNat, by omega⟩
      have hR2 := Lib.hid (show runB L (k + 1) F = R from hR.out)
      have hlt : k < L.length := by omega
      have hcb := cellk HC.out hbw
      obtain ⟨g, p, rfl, hg, hNd⟩ := (H.out.keep hbw).at_ hlt
      obtain ⟨d, hd⟩ : ∃ d, at_ L k = d := ⟨_, rfl⟩
      have hNd2 : NdAt wr g (p + k * 4) d := by rw [← hd]; exact hNd
      have Hd := Lib.hid hd
      have HN2 := Lib.hid hNd2
      clear hNd hNd2 hd hR hz3 hz4 hz5
      cases hF : F k
      · have hrd := readB hown hlt hF
        have HR3 := Lib.hid (show runB L k F = R by rw [← runB_no hF]; exact hR2.out)
        clear hF
        go_wp2_with fail
        go_roundw
        case rel => exact ⟨(k : Int) - 1, F, rfl, by omega, by omega, hown, hbw, Lib.hid (by rw [show ((k : Int) - 1 + 1).toNat = k by omega]; exact HR3.out)⟩
        case measure => simp [intOf]; omega
      · have hrd := readB hown hlt hF
        have HF := Lib.hid hF
        have hug := (hown.lt _ rfl).2
        clear hF
        go_wp2_with fail
        refine (childrenOf_any g (p + k * 4) d _ HN2.out).mono ?_
        rintro e w9 ⟨q, rfl, hq, hb9⟩
        have hown9 := own_keep hown hb9
        have hbw9 := bl_call hbw hb9
        have hsq : w.heap.size < q := Nat.lt_of_lt_of_le hug hq.1
        have hkc := hq.2
        have hK2 := kids_le d.k
        obtain ⟨K, hK⟩ : ∃ K, kidsK d.k = K := ⟨_, rfl⟩
        rw [hK] at hK2 ⊢
        have HKK := Lib.hid hK
        clear hK hq hb9 hown hug hrd
        go_wp2_with fail
        go_loopw [45] (fun i wi => ∃ m : Nat, m ≤ K ∧ i = .int .i64 m ∧ wi.ownsRow w.heap.size 4 1 (.slice (some ⟨w.heap.size, 0, none⟩) L.length L.length) L.length (rowB L.length (stK F d m)) ∧ Below w.heap.size w wi ∧ wi.cell? ⟨q, 0, none⟩ = some (.int .i64 d.a) ∧ wi.cell? ⟨q, 1, none⟩ = some (.int .i64 d.b)) (fun i _ => K - (intOf i).toNat)
        case atStart => exact ⟨0, Nat.zero_le _, rfl, hown9, hbw9, hkc.1, hkc.2⟩
        case round =>
          clear hown9 hbw9 hkc hbw hcb
          obtain ⟨m, hm, rfl, hown, hbw, ha, hb⟩ := hrel
          by_cases hlm : m < K
          · have hcell := kd_cell ⟨ha, hb⟩ (show m < kidsK d.k by rw [HKK.out]; exact hlm)
            obtain ⟨A, hA, hAk⟩ := valid_kid HV.out hlt Hd.out (show m < kidsK d.k by rw [HKK.out]; exact hlm)
            have HS := Lib.hid (stK_succ (F := F) hA)
            rw [hA] at hcell
            obtain ⟨S, hS⟩ : ∃ S, stK F d m = S := ⟨_, rfl⟩
            rw [hS] at hown HS
            obtain ⟨hc1, hf1, hst⟩ := bumpB hown (k := A) (by omega)
            have k1 := cellfar ha (show w.heap.size ≠ q by omega) A (.bool true)
            have k2 := cellfar hb (show w.heap.size ≠ q by omega) A (.bool true)
            clear hA hS hown ha hb
            go_wp2_with (go_at_call 81; refine (itself_any _ _).mono ?_; rintro e w' ⟨rfl, he⟩; subst w')
            go_roundw
            case rel => exact ⟨m + 1, by omega, by go_num, by rw [HS.out]; exact hst, bl_set hbw (Nat.le_refl _) _, k1, k2⟩
            case measure => simp [intOf]; omega
          · obtain rfl : m = K := by omega
            have HR3 := Lib.hid (show runB L k (stK F d m) = R by rw [← runB_yes HF.out Hd.out HKK.out]; exact hR2.out)
            clear ha hb hlm
            go_wp2_with fail
            go_roundw
            case rel => exact ⟨(k : Int) - 1, _, rfl, by omega, by omega, hown, hbw, Lib.hid (by rw [show ((k : Int) - 1 + 1).toNat = k by omega]; exact HR3.out)⟩
            case measure => simp [intOf]; omega
    · obtain rfl : z = -1 := by omega
      have hR2 : F = R := hR.out
      clear hR hz3 hz4 hz5
      go_wp2_with fail
      go_ret
      refine ⟨_, rfl, ?_, hbw⟩
      rw [← hR2]
      exact RowF.of hown
end Go.Proofs.Ytpbccoobkmahlaa
