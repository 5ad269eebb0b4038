/- Lists of shapes copied by the laws, compared, marked. No conditions but bounds. -/
import Derived.Test.YtpbccoobkmahlaaShapesM
namespace Go.Proofs.Ytpbccoobkmahlaa
open Go.Fl Go.RowKit

theorem LaidS.done {w : World} {lo u n : Nat} {LL : List (List Nd)} (h : LaidS w lo u n n LL) (hn : n = LL.length) : OwnSS w lo w.heap.size (.slice (some ⟨u, 0, none⟩) n n) LL := by
  obtain ⟨f, B, ho, h1, h2, h3⟩ := h
  subst hn
  exact ⟨u, f, B, rfl, (ho.lt u rfl).1, h1, h2, Nat.le_refl _, fun i hi => ⟨(ho.cellAt i (by omega)).trans (rowS_at hi hi), h3 i hi⟩⟩
set_option maxHeartbeats 1000000 in
theorem toShapeS_own (v : Value) (LL : List (List Nd)) (w : World) (h : ShapesIn w v LL) (hn : totS LL ≤ 1048576) :
    Calls Try.prog 15 #[v] w fun e w' => ∃ g, e = .returned (.slice (some ⟨g, 0, none⟩) LL.length LL.length) ∧ OwnSS w' w.heap.size w'.heap.size (.slice (some ⟨g, 0, none⟩) LL.length LL.length) LL ∧ Below w.heap.size w w' := by
  obtain ⟨i0, hi, hz0, hz1, hz2⟩ := info_parts info_sh
  have hlen : LL.length ≤ 1048576 := by unfold totS at hn; omega
  have hb2 : i0.bytes * LL.length ≤ 281474976710656 := by rw [hz2]; omega
  have hb3 : LL.length ≤ maxLen := by unfold maxLen; omega
  obtain ⟨a, cap, rfl, _⟩ := id h
  have H := Lib.hid h
  have HT := Lib.hid hn
  clear h hn
  go_enter Try.func15, Try.ntmps15
  go_wp2_with (at_make; refine wpList_make_full _ rfl _ _ 29 rfl w.heap.size 26 i0 _ 1 Try.underlying29 hi hz0 hz1 .i64 .i64 _ _ LL.length rfl rfl rfl rfl hb2 hb3 (Nat.le_refl _) ?_; intro w1 hown hgrow)
  have hbl := (bl_refl w).grown hgrow (Nat.le_refl _) (fun k hk => by cases hk)
  rw [rowS_zero _ (fun _ => .slice none 0 0)] at hown
  have hlt1 := (hown.lt _ rfl).2
  have hrow : LaidS w1 w.heap.size w.heap.size LL.length 0 LL := ⟨_, fun _ => w.heap.size + 1, hown, Nat.lt_succ_self _, hlt1, fun i hi => by omega⟩
  clear hgrow hown hlt1
  go_loopw [4] (fun i wr => ∃ k : Nat, k ≤ LL.length ∧ i = .int .i64 k ∧ LaidS wr w.heap.size w.heap.size LL.length k LL ∧ Below w.heap.size w wr) (fun i _ => LL.length - (intOf i).toNat)
  case atStart => exact ⟨0, Nat.zero_le _, rfl, hrow, hbl⟩
  case round =>
    clear hrow hbl
    obtain ⟨k, hk, rfl, hrow, hbw⟩ := hrel
    by_cases hlt : k < LL.length
    · obtain ⟨g, o, sv, rfl, hc0, hN⟩ := (H.out.keep hbw).at_ hlt
      obtain ⟨L, hd⟩ : ∃ L, sh_ LL k = L := ⟨_, rfl⟩
      rw [hd] at hN
      have HC := Lib.hid (toShape_own sv L wr hN (totS_at HT.out hlt hd))
      obtain ⟨av, cv, rfl, _⟩ := id hN
      have Hd := Lib.hid hd
      have HR := Lib.hid hrow
      clear hd hN hrow
      go_wp2_with (go_at_call 24; refine (Calls.mono (by exact HC.out) ?_); rintro e w2 ⟨q, rfl, hS2, hb2⟩; obtain ⟨d0, f0⟩ := (HR.out.keep hb2).place hlt)
      go_roundw
      case rel => exact ⟨k + 1, by omega, by go_num, HR.out.store hb2 Hd.out hS2, bl_set (bl_call hbw hb2) (Nat.le_refl _) _⟩
      case measure => simp [intOf]; omega
    · obtain rfl : k = LL.length := by omega
      have hD := hrow.done rfl
      clear hrow
      go_wp2
      go_ret
      exact ⟨_, rfl, hD, hbw⟩
set_option maxHeartbeats 1000000 in
theorem eqShapeS_true (v u : Value) (LL : List (List Nd)) (w : World) (h : ShR w v LL) (h' : ShR w u LL) (hn : totS LL ≤ 1048576) :
    Calls Try.prog 18 #[v, u] w fun e w' => e = .returned (.bool true) ∧ Below w.heap.size w w' := by
  have hlen : LL.length ≤ 1048576 := by unfold totS at hn; omega
  obtain ⟨g, f, rfl, hr⟩ := h
  obtain ⟨g', f', rfl, hr'⟩ := h'
  have H := Lib.hid hr
  have H' := Lib.hid hr'
  have HT := Lib.hid hn
  clear hr hr' hn
  go_enter Try.func18, Try.ntmps18
  go_wp2_with fail
  go_loopw [5] (fun i wr => ∃ k : Nat, k ≤ LL.length ∧ i = .int .i64 k ∧ Below w.heap.size w wr) (fun i _ => LL.length - (intOf i).toNat)
  case atStart => exact ⟨0, Nat.zero_le _, rfl, bl_refl _⟩
  case round =>
    obtain ⟨k, hk, rfl, hbw⟩ := hrel
    by_cases hlt : k < LL.length
    · obtain ⟨hc0, lo, hi, hS⟩ := H.out k hlt
      obtain ⟨hc0', lo', hi', hS'⟩ := H'.out k hlt
      obtain ⟨L, hd⟩ : ∃ L, sh_ LL k = L := ⟨_, rfl⟩
      have hL := totS_at HT.out hlt hd
      rw [hd] at hS hS'
      have r0 := cellk hc0 hbw
      have r1 := cellk hc0' hbw
      have hN := hS.nodes.keep hbw
      have hN' := hS'.nodes.keep hbw
      obtain ⟨sv, hsv⟩ : ∃ sv, f k = sv := ⟨_, rfl⟩
      obtain ⟨sv', hsv'⟩ : ∃ sv, f' k = sv := ⟨_, rfl⟩
      rw [hsv] at r0 hN
      rw [hsv'] at r1 hN'
      have HC := Lib.hid (fun n => eqShape_true sv sv' L (wr.drewN n) (hN.keep (bl_drewN (bl_refl _) n)) (hN'.keep (bl_drewN (bl_refl _) n)) hL)
      obtain ⟨a1, n1, rfl, _⟩ := id hN
      obtain ⟨a2, n2, rfl, _⟩ := id hN'
      clear hd hS hS' hc0 hc0' hN hN' hsv hsv'
      go_wp2_with fail
      go_region_with (go_at_call 17; refine (Calls.mono (by first | exact HC.out 0 | exact HC.out _) ?_); rintro e w1 ⟨rfl, hb1⟩)
      all_goals (go_wp2_with fail; go_roundw)
      all_goals first | exact ⟨k + 1, by omega, by go_num, by first | exact bl_call (bl_drewN hbw _) hb1 | exact bl_call hbw hb1⟩ | (simp [intOf]; omega)
    · go_wp2_with fail
      go_ret
      exact ⟨rfl, hbw⟩
theorem Within.widen {lo hi lo' hi' : Nat} {w w' : World} (h : Within lo hi w w') (h1 : lo' ≤ lo) (h2 : hi ≤ hi') : Within lo' hi' w w' :=
  ⟨h.os, h.tape, h.output, h.size, fun k hk hl => h.block k hk (by omega)⟩
theorem markNodeS_from (k0 : Nat) (v : Value) (L : List Nd) (lo hi : Nat) (w : World) (h : OwnSh w lo hi v L) (hn : tot L ≤ 1048576) (hk0 : k0 ≤ 10485760) : Calls Try.prog 54 #[v, .int .i64 (k0 : Nat)] w
    fun e w' => ∃ K : Nat, K ≤ k0 + 3 * tot L ∧ e = .returned (.int .i64 (K : Nat)) ∧ Within lo hi w w' := by
  obtain ⟨P, e, hP⟩ := h
  have hk := GL.kAt_is e k0
  have hl : P.length = L.length := by rw [← e, List.length_map]
  unfold tot at hn ⊢
  refine (markNodeS_any v P k0 lo hi w hP (by omega) (by omega)).mono ?_
  rintro e w' ⟨rfl, _, hw⟩
  exact ⟨_, by omega, rfl, hw⟩
set_option maxHeartbeats 1000000 in
theorem markShapeS_one (v : Value) (LL : List (List Nd)) (lo hi : Nat) (w : World) (h : OwnSS w lo hi v LL) (hn : totS LL ≤ 1048576) : Calls Try.prog 19 #[v, .int .i64 1] w
    fun e w' => ∃ K : Nat, K ≤ 4194304 ∧ e = .returned (.int .i64 (K : Nat)) ∧ Within lo hi w w' := by
  obtain ⟨g, f, B, rfl, h1, h2, h3, h4, h5⟩ := h
  have hlen : LL.length ≤ 1048576 := by unfold totS at hn; omega
  have hmono := mono_all (fun i hi => (h5 i hi).2.1)
  have H := Lib.hid h5
  have HT := Lib.hid hn
  have HM := Lib.hid hmono
  have hB0 : B 0 ≤ B LL.length := hmono 0 _ (Nat.zero_le _) (Nat.le_refl _)
  have hgs : g < w.heap.size := by omega
  clear h5 hn hmono
  go_enter Try.func19, Try.ntmps19
  go_wp2_with fail
  go_loopw [1, 5] (fun s i wr => ∃ (k K : Nat), k ≤ LL.length ∧ i = .int .i64 k ∧ s = .int .i64 (K : Nat) ∧ K ≤ 1 + 3 * sT LL k ∧ Within (B 0) (B k) w wr) (fun _ i _ => LL.length - (intOf i).toNat)
  case atStart => exact ⟨0, 1, Nat.zero_le _, rfl, rfl, by omega, Within.refl _ _ _⟩
  case round =>
    obtain ⟨k, K, hk, rfl, rfl, hK, hw⟩ := hrel
    by_cases hlt : k < LL.length
    · obtain ⟨hc0, hBk, hS⟩ := H.out k hlt
      obtain ⟨L, hd⟩ : ∃ L, sh_ LL k = L := ⟨_, rfl⟩
      have hL := totS_at HT.out hlt hd
      have hsn := sT_succ hlt hd
      have hle := sT_le (LL := LL) (k := k + 1) (by omega)
      have htt := HT.out
      unfold totS at htt
      have hBm := HM.out 0 k (Nat.zero_le _) (by omega)
      have hBm2 := HM.out (k + 1) LL.length (by omega) (Nat.le_refl _)
      rw [hd] at hS
      have r0 := cellW hc0 hw (.inl h2)
      have hS2 := hS.apart hw (.inr (Nat.le_refl _))
      obtain ⟨sv, hsv⟩ : ∃ sv, f k = sv := ⟨_, rfl⟩
      rw [hsv] at r0 hS2
      have HC := Lib.hid (markNodeS_from K sv L _ _ wr hS2 hL (by omega))
      obtain ⟨a1, n1, rfl⟩ := hS2.form
      have HW := Lib.hid hw
      have HK := Lib.hid (show ∀ K', K' ≤ K + 3 * tot L → K' ≤ 1 + 3 * sT LL (k + 1) by omega)
      clear hd hS hc0 hS2 hsv hw hsn hK hle htt
      go_wp2_with (go_at_call 54; refine (Calls.mono (by exact HC.out) ?_); rintro e w2 ⟨K2, hK2, rfl, hw2⟩)
      go_roundw
      case rel => exact ⟨k + 1, K2, by omega, by go_num, rfl, HK.out _ hK2, (HW.out.widen (Nat.le_refl _) hBk).trans (hw2.widen hBm (Nat.le_refl _))⟩
      case measure => simp [intOf]; omega
    · obtain rfl : k = LL.length := by omega
      have htt := HT.out
      unfold totS at htt
      go_wp2_with fail
      go_ret
      exact ⟨K, by omega, rfl, hw.widen (by omega) h3⟩
end Go.Proofs.Ytpbccoobkmahlaa
