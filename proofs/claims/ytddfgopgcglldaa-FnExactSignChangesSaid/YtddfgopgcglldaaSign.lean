/- The marks in a slice of numbers, and the places where the sign of a list's numbers turns. No conditions but bounds on lengths. -/
import Derived.Test.YtddfgopgcglldaaInts
namespace Go.Proofs.Ytddfgopgcglldaa
open Go.Fl Go.RowKit

def fmarks (k n : Nat) : List Nat := (List.range n).map fun i => FloatKind.f32.nearest ((k + i : Nat) : Int)
theorem fmarks_len (k n : Nat) : (fmarks k n).length = n := by simp [fmarks]
/-- The numbers behind k marks. -/
def rowMF (zs : List Nat) (k0 k : Nat) : List Value := (fmarks k0 k).map (Value.float .f32) ++ (zs.drop k).map (Value.float .f32)
theorem rowMF_zero (zs : List Nat) (k0 : Nat) : zs.map (Value.float .f32) = rowMF zs k0 0 := by simp [rowMF, fmarks]
theorem rowMF_full (zs : List Nat) (k0 : Nat) : rowMF zs k0 zs.length = (fmarks k0 zs.length).map (Value.float .f32) := by simp [rowMF]
theorem rowMF_get (zs : List Nat) (k0 k : Nat) (hk : k < zs.length) : ∃ u, (rowMF zs k0 k)[k]? = some u := ⟨_, List.getElem?_eq_getElem (by simp [rowMF, fmarks_len]; omega)⟩
theorem rowMF_set (zs : List Nat) (k0 k : Nat) (hk : k < zs.length) : (rowMF zs k0 k).set k (.float .f32 (FloatKind.f32.nearest ((k0 + k : Nat) : Int))) = rowMF zs k0 (k + 1) := by
  unfold rowMF
  have l : ((fmarks k0 k).map (Value.float .f32)).length = k := by simp [fmarks_len]
  rw [List.set_append_right _ _ (by omega), l, Nat.sub_self, List.drop_eq_getElem_cons hk, List.map_cons, List.set_cons_zero]
  have e : fmarks k0 (k + 1) = fmarks k0 k ++ [FloatKind.f32.nearest ((k0 + k : Nat) : Int)] := by simp [fmarks, List.range_succ]
  rw [e, List.map_append, List.append_assoc]
  rfl
theorem markFloat32S_any (v : Value) (zs : List Nat) (k0 n B : Nat) (w : World) (hnz : n = zs.length) (h : w.ownsRow B 22 1 v n (zs.map (Value.float .f32))) (hn : k0 + n ≤ 1073741824) : Calls Try.prog 44 #[v, .int .i64 k0] w
    fun e w' => e = .returned (.int .i64 ((k0 + n : Nat) : Int)) ∧ w'.ownsRow B 22 1 v n ((fmarks k0 n).map (Value.float .f32)) ∧ w.grownBy w' v.ownBlock := by
  rcases h.2 with ⟨rfl, h0⟩ | ⟨g, cap, cur, rfl, hb, hg, rest⟩
  · subst h0
    have hm : (fmarks k0 0).map (Value.float .f32) = zs.map (Value.float .f32) := by rw [List.length_eq_zero_iff.1 hnz.symm]; rfl
    rw [hm]
    clear hm hnz
    go_enter Try.func44, Try.ntmps44
    go_wp2
    go_loopw [1, 5] (fun s i wr => ∃ k : Nat, i = .int .i64 k ∧ wr = w ∧ s = .int .i64 k0) (fun _ _ _ => 0)
    case atStart => exact ⟨0, rfl, rfl, rfl⟩
    case round =>
      obtain ⟨k, rfl, rfl, rfl⟩ := hrel
      go_wp2
      go_ret
      exact ⟨rfl, h, grown_refl _ _⟩
  · rw [rowMF_zero zs k0] at h
    have Hf := Lib.hid (rowMF_full zs k0)
    have Hs := Lib.hid (fun k => rowMF_set zs k0 k)
    have Hg := Lib.hid (fun k => rowMF_get zs k0 k)
    have Hn := Lib.hid hnz
    clear hg rest hb hnz
    go_enter Try.func44, Try.ntmps44
    go_wp2
    go_loopw [1, 5] (fun s i wr => ∃ k : Nat, k ≤ n ∧ i = .int .i64 k ∧ s = .int .i64 ((k0 + k : Nat) : Int) ∧ wr.ownsRow B 22 1 (.slice (some ⟨g, 0, none⟩) n cap) n (rowMF zs k0 k) ∧ w.grownBy wr (some g)) (fun _ i _ => n - (intOf i).toNat)
    case atStart => exact ⟨0, Nat.zero_le _, rfl, rfl, h, grown_refl _ _⟩
    case round =>
      obtain ⟨k, hk, rfl, rfl, hown, hgr⟩ := hrel
      by_cases hlt : k < n
      · obtain ⟨u, hu⟩ := Hg.out k (by rw [← Hn.out]; exact hlt)
        have hd := (hown.cellAt k (by omega)).trans hu
        have hf := hown.frozenAt k
        have hst := hown.stored k (.float .f32 (FloatKind.f32.nearest ((k0 + k : Nat) : Int)))
        rw [Hs.out k (by rw [← Hn.out]; exact hlt)] at hst
        go_wp2
        go_roundw
        case rel => exact ⟨k + 1, by omega, by go_num, by go_num, hst.1, grown_trans hgr (grown_set _ _ _)⟩
        case measure => simp [intOf]; omega
      · obtain rfl : k = n := by omega
        have hown' := hown
        rw [Hn.out, Hf.out, ← Hn.out] at hown'
        go_wp2
        go_ret
        exact ⟨rfl, hown', hgr⟩
def negB (x : Nat) : Bool := FloatKind.f32.format.order x 0 == some .lt
def chg (xs : List Nat) (i : Nat) : Bool := negB (xs.getD i 0) != negB (xs.getD (i + 1) 0)
/-- The first k places, as far as the sign turns there. -/
def chs (xs : List Nat) (k : Nat) : List Int := ((List.range k).filter (chg xs)).map (fun i : Nat => (i : Int))
theorem chs_yes {xs : List Nat} {k : Nat} (h : chg xs k = true) : chs xs (k + 1) = chs xs k ++ [(k : Int)] := by simp [chs, List.range_succ, List.filter_append, h]
theorem chs_no {xs : List Nat} {k : Nat} (h : chg xs k = false) : chs xs (k + 1) = chs xs k := by simp [chs, List.range_succ, List.filter_append, h]
theorem chs_len (xs : List Nat) (k : Nat) : (chs xs k).length ≤ k := by
  have := List.length_filter_le (chg xs) (List.range k)
  simpa [chs] using this
theorem info_i64 : (Try.prog.info? 2).map (fun i => (i.zero, i.size, i.bytes)) = some (some (.int .i64 0), 1, 8) := by kernel_rfl
theorem chg_row {w' : World} {B e : Nat} {v : Value} {xs : List Nat} {k : Nat} (hc : chg xs k = true) (h : w'.ownsRow B e 1 v ((chs xs k).length + 1) ((chs xs k).map (Value.int .i64) ++ [.int .i64 (k : Int)])) :
    w'.ownsRow B e 1 v (chs xs (k + 1)).length ((chs xs (k + 1)).map (Value.int .i64)) := by
  rw [chs_yes hc]; simpa using h
theorem app_bl {w wr W w1 : World} {e n : Nat} {v : Value} {xs : List Value} (hown : wr.ownsRow w.heap.size e 1 v n xs) (hgrow : W.grownBy w1 v.ownBlock) (h : Below w.heap.size w W) : Below w.heap.size w w1 := h.grown hgrow h.size (fun j hj => (hown.lt j hj).1)
theorem listOk_few (a : Option Addr) (n cap : Nat) (hd : decide ((n : Int) ≤ 256) = true) (w : World) : Calls Try.prog 65 #[.slice a n cap] w (BOut w true) := by
  go_enter Try.func65, Try.ntmps65
  go_wp2
  go_ret
  exact ⟨rfl, 0, rfl⟩
theorem listOk_many (a : Option Addr) (n cap : Nat) (hd : decide ((n : Int) ≤ 256) = false) (w : World) : Calls Try.prog 65 #[.slice a n cap] w (BOut w false) := by
  go_enter Try.func65, Try.ntmps65
  go_wp2
  go_ret
  exact ⟨rfl, 0, rfl⟩
/-- How a search for turns of sign ends. -/
def SC (w : World) (xs : List Nat) : Ending → World → Prop := fun e w' => ∃ v, e = .returned (.tuple #[v, .bool true]) ∧ w'.ownsRow w.heap.size 2 1 v (chs xs (xs.length - 1)).length ((chs xs (xs.length - 1)).map (Value.int .i64)) ∧ Below w.heap.size w w'
set_option maxHeartbeats 1000000 in
theorem SignChanges_few (v : Value) (xs : List Nat) (w : World) (h : FIn w v xs) (hn : xs.length ≤ 256) : Calls Try.prog 42 #[v] w (SC w xs) := by
  obtain ⟨i0, hi, hz0, hz1, hz2⟩ := info_parts info_i64
  obtain ⟨a, cap, rfl, he⟩ := h
  have hsrc : ∀ k, k < xs.length → ∃ b o, a = some ⟨b, o, none⟩ ∧ b < w.heap.size ∧ ∀ i, i < xs.length → w.cell? ⟨b, o + i, none⟩ = some (.float .f32 (xs.getD i 0)) := by
    intro k hk
    rcases he with rfl | ⟨b, o, ha, hc⟩
    · simp at hk
    · exact ⟨b, o, ha, World.block_lt_of_cell? w _ (hc k hk), hc⟩
  clear he
  have hd : decide ((xs.length : Int) ≤ 256) = true := by simp; omega
  go_enter Try.func42, Try.ntmps42
  go_wp2_with (go_at_call 65; refine (listOk_few _ _ _ (by assumption) _).mono ?_; rintro e w' ⟨rfl, m, rfl⟩)
  go_loopw [4, 5] (fun v i wr => ∃ k : Nat, k ≤ xs.length - 1 ∧ i = .int .i64 ((k : Int) + 1) ∧ wr.ownsRow w.heap.size 2 1 v (chs xs k).length ((chs xs k).map (Value.int .i64)) ∧ Below w.heap.size w wr) (fun _ i _ => xs.length + 1 - (intOf i).toNat)
  case atStart => exact ⟨0, Nat.zero_le _, rfl, World.ownsRow_made w #[] 0 (Nat.le_refl _) (by decide) (by simp), by first | exact bl_alloc (bl_refl _) _ | exact bl_drewN (bl_alloc (bl_refl _) _) _⟩
  case round =>
    obtain ⟨k, hk, rfl, hown, hbl⟩ := hrel
    have hdl := chs_len xs k
    by_cases hlt : k + 1 < xs.length
    · obtain ⟨b, o, rfl, hb, hc⟩ := hsrc k (by omega)
      have hc0 := (hbl.cell (p := ⟨b, o + k, none⟩) hb).trans (hc k (by omega))
      have hc1 := (hbl.cell (p := ⟨b, o + (k + 1), none⟩) hb).trans (hc (k + 1) hlt)
      clear hsrc hc
      have hsz := hbl.size
      have hG : chg xs k = (negB (xs.getD k 0) != negB (xs.getD (k + 1) 0)) := rfl
      generalize xs.getD k 0 = x at hc0 hG
      generalize xs.getD (k + 1) 0 = y at hc1 hG
      unfold negB at hG
      cases hx : (FloatKind.f32.format.order x 0 == some .lt)
      · cases hy : (FloatKind.f32.format.order y 0 == some .lt)
        · skip
          have Hg := Lib.hid (show chg xs k = false by rw [hG, hx, hy]; rfl)
          clear hG
          go_wp2_with fail
          go_region
          all_goals (go_wp2_with fail; go_roundw)
          all_goals first | exact ⟨k + 1, by omega, by go_num, by rw [chs_no Hg.out]; exact hown, bl_drewN hbl _⟩ | (simp [intOf]; omega)
        · skip
          have Hg := Lib.hid (show chg xs k = true by rw [hG, hx, hy]; rfl)
          clear hG
          go_wp2_with fail
          go_region
          all_goals (go_wp2_with (at_builtin; refine wpList_append_own _ rfl _ _ 47 rfl w.heap.size 2 i0 (.int .i64 0) 1 8 Try.underlying47 hi hz0 hz1 hz2 rfl (by decide) _ _ _ rfl (hown.alloc _) ⟨wr.heap.size, 0, none⟩ 1 1 [.int .i64 (k : Int)] rfl rfl (by intro j u hj; match j, hj with | 0, hj => simp at hj; subst hj; simp [Addr.add]) (by intro u hu; simp at hu; subst hu; rfl) (by unfold maxLen; omega) (by omega) (by simp; omega) ?_; intro v' w1 hown' hgrow _; have hown2 := chg_row Hg.out hown'; have hbl2 := app_bl hown hgrow (by first | exact bl_alloc hbl _ | exact bl_drew (bl_alloc hbl _) | exact bl_drewN (bl_alloc hbl _) _); clear hown' hgrow))
          all_goals go_roundw
          all_goals first | exact ⟨k + 1, by omega, by go_num, hown2, hbl2⟩ | (simp [intOf]; omega)
      · cases hy : (FloatKind.f32.format.order y 0 == some .lt)
        · skip
          have Hg := Lib.hid (show chg xs k = true by rw [hG, hx, hy]; rfl)
          clear hG
          go_wp2_with fail
          go_region
          all_goals (go_wp2_with (at_builtin; refine wpList_append_own _ rfl _ _ 47 rfl w.heap.size 2 i0 (.int .i64 0) 1 8 Try.underlying47 hi hz0 hz1 hz2 rfl (by decide) _ _ _ rfl (hown.alloc _) ⟨wr.heap.size, 0, none⟩ 1 1 [.int .i64 (k : Int)] rfl rfl (by intro j u hj; match j, hj with | 0, hj => simp at hj; subst hj; simp [Addr.add]) (by intro u hu; simp at hu; subst hu; rfl) (by unfold maxLen; omega) (by omega) (by simp; omega) ?_; intro v' w1 hown' hgrow _; have hown2 := chg_row Hg.out hown'; have hbl2 := app_bl hown hgrow (by first | exact bl_alloc hbl _ | exact bl_drew (bl_alloc hbl _) | exact bl_drewN (bl_alloc hbl _) _); clear hown' hgrow))
          all_goals go_roundw
          all_goals first | exact ⟨k + 1, by omega, by go_num, hown2, hbl2⟩ | (simp [intOf]; omega)
        · skip
          have Hg := Lib.hid (show chg xs k = false by rw [hG, hx, hy]; rfl)
          clear hG
          go_wp2_with fail
          go_region
          all_goals (go_wp2_with fail; go_roundw)
          all_goals first | exact ⟨k + 1, by omega, by go_num, by rw [chs_no Hg.out]; exact hown, bl_drewN hbl _⟩ | (simp [intOf]; omega)
    · have e : k = xs.length - 1 := by omega
      have H := Lib.hid e
      clear hsrc e
      go_wp2_with fail
      go_ret2
      exact ⟨_, rfl, by rw [← H.out]; exact hown, hbl⟩
set_option maxHeartbeats 1000000 in
theorem spec_SignChanges_few (v : Value) (xs : List Nat) (w : World) (h : FIn w v xs) (hn : xs.length ≤ 256) : Calls Try.prog 41 #[v] w (SC w xs) := by
  obtain ⟨i0, hi, hz0, hz1, hz2⟩ := info_parts info_i64
  obtain ⟨a, cap, rfl, he⟩ := h
  have hsrc : ∀ k, k < xs.length → ∃ b o, a = some ⟨b, o, none⟩ ∧ b < w.heap.size ∧ ∀ i, i < xs.length → w.cell? ⟨b, o + i, none⟩ = some (.float .f32 (xs.getD i 0)) := by
    intro k hk
    rcases he with rfl | ⟨b, o, ha, hc⟩
    · simp at hk
    · exact ⟨b, o, ha, World.block_lt_of_cell? w _ (hc k hk), hc⟩
  clear he
  have hd : decide ((256 : Int) < xs.length) = false := by simp; omega
  go_enter Try.func41, Try.ntmps41
  go_wp2_with (fail)
  go_loopw [4, 5] (fun v i wr => ∃ k : Nat, k ≤ xs.length - 1 ∧ i = .int .i64 (k : Int) ∧ wr.ownsRow w.heap.size 2 1 v (chs xs k).length ((chs xs k).map (Value.int .i64)) ∧ Below w.heap.size w wr) (fun _ i _ => xs.length + 1 - (intOf i).toNat)
  case atStart => exact ⟨0, Nat.zero_le _, rfl, World.ownsRow_made w #[] 0 (Nat.le_refl _) (by decide) (by simp), by first | exact bl_alloc (bl_refl _) _ | exact bl_drewN (bl_alloc (bl_refl _) _) _⟩
  case round =>
    obtain ⟨k, hk, rfl, hown, hbl⟩ := hrel
    have hdl := chs_len xs k
    by_cases hlt : k + 1 < xs.length
    · obtain ⟨b, o, rfl, hb, hc⟩ := hsrc k (by omega)
      have hc0 := (hbl.cell (p := ⟨b, o + k, none⟩) hb).trans (hc k (by omega))
      have hc1 := (hbl.cell (p := ⟨b, o + (k + 1), none⟩) hb).trans (hc (k + 1) hlt)
      clear hsrc hc
      have hsz := hbl.size
      have hG : chg xs k = (negB (xs.getD k 0) != negB (xs.getD (k + 1) 0)) := rfl
      generalize xs.getD k 0 = x at hc0 hG
      generalize xs.getD (k + 1) 0 = y at hc1 hG
      unfold negB at hG
      cases hx : (FloatKind.f32.format.order x 0 == some .lt)
      · cases hy : (FloatKind.f32.format.order y 0 == some .lt)
        · skip
          have Hg := Lib.hid (show chg xs k = false by rw [hG, hx, hy]; rfl)
          clear hG
          go_wp2_with fail
          go_region
          all_goals (go_wp2_with fail; go_roundw)
          all_goals first | exact ⟨k + 1, by omega, by go_num, by rw [chs_no Hg.out]; exact hown, bl_drewN hbl _⟩ | (simp [intOf]; omega)
        · skip
          have Hg := Lib.hid (show chg xs k = true by rw [hG, hx, hy]; rfl)
          clear hG
          go_wp2_with fail
          go_region
          all_goals (go_wp2_with (at_builtin; refine wpList_append_own _ rfl _ _ 47 rfl w.heap.size 2 i0 (.int .i64 0) 1 8 Try.underlying47 hi hz0 hz1 hz2 rfl (by decide) _ _ _ rfl (hown.alloc _) ⟨wr.heap.size, 0, none⟩ 1 1 [.int .i64 (k : Int)] rfl rfl (by intro j u hj; match j, hj with | 0, hj => simp at hj; subst hj; simp [Addr.add]) (by intro u hu; simp at hu; subst hu; rfl) (by unfold maxLen; omega) (by omega) (by simp; omega) ?_; intro v' w1 hown' hgrow _; have hown2 := chg_row Hg.out hown'; have hbl2 := app_bl hown hgrow (by first | exact bl_alloc hbl _ | exact bl_drew (bl_alloc hbl _) | exact bl_drewN (bl_alloc hbl _) _); clear hown' hgrow))
          all_goals go_roundw
          all_goals first | exact ⟨k + 1, by omega, by go_num, hown2, hbl2⟩ | (simp [intOf]; omega)
      · cases hy : (FloatKind.f32.format.order y 0 == some .lt)
        · skip
          have Hg := Lib.hid (show chg xs k = true by rw [hG, hx, hy]; rfl)
          clear hG
          go_wp2_with fail
          go_region
          all_goals (go_wp2_with (at_builtin; refine wpList_append_own _ rfl _ _ 47 rfl w.heap.size 2 i0 (.int .i64 0) 1 8 Try.underlying47 hi hz0 hz1 hz2 rfl (by decide) _ _ _ rfl (hown.alloc _) ⟨wr.heap.size, 0, none⟩ 1 1 [.int .i64 (k : Int)] rfl rfl (by intro j u hj; match j, hj with | 0, hj => simp at hj; subst hj; simp [Addr.add]) (by intro u hu; simp at hu; subst hu; rfl) (by unfold maxLen; omega) (by omega) (by simp; omega) ?_; intro v' w1 hown' hgrow _; have hown2 := chg_row Hg.out hown'; have hbl2 := app_bl hown hgrow (by first | exact bl_alloc hbl _ | exact bl_drew (bl_alloc hbl _) | exact bl_drewN (bl_alloc hbl _) _); clear hown' hgrow))
          all_goals go_roundw
          all_goals first | exact ⟨k + 1, by omega, by go_num, hown2, hbl2⟩ | (simp [intOf]; omega)
        · skip
          have Hg := Lib.hid (show chg xs k = false by rw [hG, hx, hy]; rfl)
          clear hG
          go_wp2_with fail
          go_region
          all_goals (go_wp2_with fail; go_roundw)
          all_goals first | exact ⟨k + 1, by omega, by go_num, by rw [chs_no Hg.out]; exact hown, bl_drewN hbl _⟩ | (simp [intOf]; omega)
    · have e : k = xs.length - 1 := by omega
      have H := Lib.hid e
      clear hsrc e
      go_wp2_with fail
      go_ret2
      exact ⟨_, rfl, by rw [← H.out]; exact hown, hbl⟩
theorem SignChanges_many (v : Value) (xs : List Nat) (w : World) (h : FIn w v xs) (hn : ¬ xs.length ≤ 256) : Calls Try.prog 42 #[v] w fun e w' => e = .returned (.tuple #[.slice none 0 0, .bool false]) ∧ ∃ n, w' = w.drewN n := by
  obtain ⟨a, cap, rfl, he⟩ := h
  clear he
  have hd : decide ((xs.length : Int) ≤ 256) = false := by simp; omega
  go_enter Try.func42, Try.ntmps42
  go_wp2_with (go_at_call 65; refine (listOk_many _ _ _ (by assumption) _).mono ?_; rintro e w' ⟨rfl, m, rfl⟩)
  go_ret2
  exact ⟨rfl, _, rfl⟩
theorem spec_SignChanges_many (v : Value) (xs : List Nat) (w : World) (h : FIn w v xs) (hn : ¬ xs.length ≤ 256) : Calls Try.prog 41 #[v] w fun e w' => e = .returned (.tuple #[.slice none 0 0, .bool false]) ∧ ∃ n, w' = w.drewN n := by
  obtain ⟨a, cap, rfl, he⟩ := h
  clear he
  have hd : decide ((256 : Int) < xs.length) = true := by simp; omega
  go_enter Try.func41, Try.ntmps41
  go_wp2_with (fail)
  go_ret2
  exact ⟨rfl, 0, rfl⟩
end Go.Proofs.Ytddfgopgcglldaa
