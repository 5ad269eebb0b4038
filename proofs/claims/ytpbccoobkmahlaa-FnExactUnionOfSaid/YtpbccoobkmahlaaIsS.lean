/- Whether a shape is right, as the reference asks it. No conditions but bounds. -/
import Derived.Test.YtpbccoobkmahlaaNodeS
import Derived.OwnWalk
namespace Go.Proofs.Ytpbccoobkmahlaa
open Go.Fl Go.RowKit

def Mod (L : List Nd) : Prop := L.length ≤ 2097152 ∧ ∀ d ∈ L, d.xs.length ≤ 1048576
theorem mod_of {L : List Nd} (h : tot L ≤ 1048576) : Mod L := ⟨by unfold tot at h; omega, fun d hd => by have := sumX_mem hd; unfold tot at h; omega⟩
theorem Mod.num {L : List Nd} (h : Mod L) {k : Nat} (hk : k < L.length) : (at_ L k).xs.length ≤ 1048576 := by
  have e : at_ L k = L[k] := by simp [at_, hk]
  rw [e]; exact h.2 _ (List.getElem_mem hk)
theorem named_len (L : List Nd) : ∀ k, (named L k).length ≤ 2 * k
  | 0 => by simp [named]
  | k + 1 => by
    have := named_len L k
    have h2 : (kidsOf (at_ L k)).length ≤ 2 := by simp [kidsOf]; omega
    simp [named]; omega
theorem named_leaf {L : List Nd} {k : Nat} {d : Nd} (hd : at_ L k = d) (h : kidsK d.k = 0) : named L (k + 1) = named L k := by
  simp [named, hd, kidsOf, h]
theorem named_one {L : List Nd} {k A : Nat} {d : Nd} (hd : at_ L k = d) (h : kidsK d.k = 1) (ha : d.a = (A : Nat)) : named L (k + 1) = named L k ++ [A] := by
  simp [named, hd, kidsOf, h, ha]
theorem named_two {L : List Nd} {k A B : Nat} {d : Nd} (hd : at_ L k = d) (h : kidsK d.k = 2) (ha : d.a = (A : Nat)) (hb : d.b = (B : Nat)) : named L (k + 1) = named L k ++ [A] ++ [B] := by
  simp [named, hd, kidsOf, h, ha, hb]
theorem okNd_kind {i : Nat} {d : Nd} (h : okNd i d = true) : okK d.k = true := by simp only [okNd, Bool.and_eq_true] at h; exact h.1
theorem a_in {i : Nat} {d : Nd} (h : okNd i d = true) (hk : kidsK d.k ≠ 0) : ∃ A : Nat, d.a = (A : Nat) ∧ A < i := by
  have hm : d.a ∈ kidsOf d := by
    unfold kidsOf
    rcases hkk : kidsK d.k with _ | n
    · exact absurd hkk hk
    · simp
  have := kids_in h _ hm
  exact ⟨d.a.toNat, by omega, by omega⟩
theorem b_in {i : Nat} {d : Nd} (h : okNd i d = true) (hk : kidsK d.k = 2) : ∃ A : Nat, d.b = (A : Nat) ∧ A < i := by
  have hm : d.b ∈ kidsOf d := by unfold kidsOf; simp [hk]
  have := kids_in h _ hm
  exact ⟨d.b.toNat, by omega, by omega⟩
/-- One more time named: what is read, what is stored, what the row is then. -/
theorem bump {w : World} {B u n cap A m : Nat} {e : TypeId} {R : List Nat} (h : w.ownsRow B e 1 (.slice (some ⟨u, 0, none⟩) n cap) n (cntRow n R)) (hA : A < n) (hs : R.length ≤ m) :
    ∃ c : Nat, c ≤ m ∧ w.cell? ⟨u, A, none⟩ = some (.int .i64 (c : Nat)) ∧ w.frozen? ⟨u, A, none⟩ = false ∧ (w.setCell ⟨u, A, none⟩ (.int .i64 ((c : Nat) + 1 : Int))).ownsRow B e 1 (.slice (some ⟨u, 0, none⟩) n cap) n (cntRow n (R ++ [A])) := by
  refine ⟨R.count A, Nat.le_trans List.count_le_length hs, (h.cellAt A (by omega)).trans (cntRow_get R hA), h.frozenAt A, ?_⟩
  have := (h.stored A (.int .i64 ((R.count A : Nat) + 1 : Int))).1
  rwa [cntRow_set R hA] at this
theorem named_small (L : List Nd) {k : Nat} (hk : k ≤ 16) : (named L k).length ≤ 32 := by have := named_len L k; omega
theorem named_small1 (L : List Nd) {k : Nat} (hk : k ≤ 16) (A : Nat) : (named L k ++ [A]).length ≤ 33 := by have := named_len L k; simp; omega
theorem info_i64 : (Try.prog.info? 2).map (fun i => (i.zero, i.size, i.bytes)) = some (some (.int .i64 0), 1, 8) := by kernel_rfl
theorem len_no1 {L : List Nd} (h : L.length = 0) : valid L = false := valid_len (by omega)
theorem cellfar {w : World} {g i u : Nat} {x : Value} (h : w.cell? ⟨g, i, none⟩ = some x) (hne : u ≠ g) (j : Nat) (y : Value) : (w.setCell ⟨u, j, none⟩ y).cell? ⟨g, i, none⟩ = some x :=
  (World.cell?_setCell_far _ _ _ _ hne).trans h
set_option maxHeartbeats 8000000 in
theorem l02Is_any (b o : Nat) (v : Value) (L : List Nd) (w : World) (hcell : w.cell? ⟨b, o, none⟩ = some v) (h : NodesIn w v L) (hm : Mod L) : Calls Try.prog 49 #[.pointer (some ⟨b, o, none⟩)] w (BB w (valid L)) := by
  obtain ⟨i0, hi, hz0, hz1, hz2⟩ := info_parts info_i64
  obtain ⟨av, cv, rfl, _⟩ := id h
  have H := Lib.hid h
  have HM := Lib.hid hm
  have hlm := hm.1
  clear h hm
  by_cases hl : 1 ≤ L.length
  · by_cases hh : L.length ≤ 16
    · have t1 : decide ((L.length : Int) < 1) = false := by simp; omega
      have t2 : decide ((16 : Int) < L.length) = false := by simp; omega
      have hb2 : i0.bytes * L.length ≤ 281474976710656 := by rw [hz2]; omega
      have hb3 : L.length ≤ maxLen := by unfold maxLen; omega
      have hbl0 := bl_refl w
      have HC := Lib.hid hcell
      go_enter Try.func49, Try.ntmps49
      go_wp2_with (at_make; refine wpList_make_full _ rfl _ _ 52 rfl w.heap.size 2 i0 (.int .i64 0) 1 Try.underlying52 hi hz0 hz1 .i64 .i64 _ _ L.length rfl rfl rfl rfl hb2 hb3 (Nat.le_refl _) ?_; intro w1 hown hgrow)
      rw [cntRow_zero] at hown
      have hbl := hbl0.grown hgrow (Nat.le_refl _) (fun k hk => by cases hk)
      clear hgrow hbl0 hcell
      go_loopw [5] (fun i wr => ∃ k : Nat, k ≤ L.length ∧ i = .int .i64 k ∧ wr.ownsRow w.heap.size 2 1 (.slice (some ⟨w.heap.size, 0, none⟩) L.length L.length) L.length (cntRow L.length (named L k)) ∧ Below w.heap.size w wr ∧ RowKit.Hid (okTo L k = true)) (fun i _ => L.length - (intOf i).toNat)
      case atStart => exact ⟨0, Nat.zero_le _, rfl, hown, hbl, Lib.hid rfl⟩
      case round =>
        clear hown hbl
        obtain ⟨k, hk, rfl, hown, hbw, hto⟩ := hrel
        by_cases hlt : k < L.length
        · have hcb := cellk HC.out hbw
          obtain ⟨g, p, rfl, hg, hNd⟩ := (H.out.keep hbw).at_ hlt
          obtain ⟨d, hd⟩ : ∃ d, at_ L k = d := ⟨_, rfl⟩
          have hNd2 : NdAt wr g (p + k * 4) d := by rw [← hd]; exact hNd
          have hdx : d.xs.length ≤ 1048576 := by rw [← hd]; exact HM.out.num hlt
          clear hNd
          have hgw : g < w.heap.size := by obtain ⟨g', p', e', hg', _⟩ := H.out.at_ hlt; injection e' with e'; injection e' with e1 e2; omega
          have HCall := Lib.hid (l02Node_any g (p + k * 4) k d wr hNd2 hdx (by omega))
          have HN2 := Lib.hid hNd2
          have Hown := Lib.hid hown
          have Hd := Lib.hid hd
          clear hNd2 hown hd
          cases hok : okNd k d
          · have HF := Lib.hid (okTo_no hlt (by rw [Hd.out]; exact hok))
            rw [hok] at HCall
            clear hok
            go_wp2_with (go_at_call 82; refine (Calls.mono (by exact HCall.out) ?_); rintro e w2 ⟨rfl, n, rfl⟩)
            go_ret
            exact ⟨ret_bool HF.out.symm, bl_drewN hbw _⟩
          · have HT := Lib.hid (okTo_yes hto.out (by rw [Hd.out]; exact hok))
            rw [hok] at HCall
            have hkd := okNd_kind hok
            cases hlf : leafK d.k
            · cases htw : twoK d.k
              · have hK := kids1 hkd hlf htw
                obtain ⟨A, hA, hAk⟩ := a_in hok (by rw [hK]; omega)
                have Hn := Lib.hid (named_one Hd.out hK hA)
                have Hl := Lib.hid (fun W => l02Leaf_at hlf W)
                have Ht := Lib.hid (fun W => l02Two_at htw W)
                have HA := Lib.hid hA
                clear hok hkd hlf htw hK hA
                go_wp2_with (first | (go_at_call 82; refine (Calls.mono (by exact HCall.out) ?_); rintro e w2 ⟨rfl, n, hw2⟩; have hown2 := own_drewN Hown.out n; rw [← hw2] at hown2; have hb2w := bl_drewN hbw n; rw [← hw2] at hb2w; have hN3 := HN2.out.keep (bl_drewN (bl_refl _) n); rw [← hw2] at hN3; obtain ⟨c0, c1, c2⟩ := hN3.facts; rw [HA.out] at c1; obtain ⟨cA, hcA, hd1, hf1, hst⟩ := bump hown2 (A := A) (by omega) (named_small L (by omega)); clear hw2 hN3) | (go_at_call 66; refine (Calls.mono (by exact Hl.out _) ?_); rintro e w' ⟨rfl, rfl⟩) | (go_at_call 67; refine (Calls.mono (by exact Ht.out _) ?_); rintro e w' ⟨rfl, rfl⟩))
                go_roundw
                case rel => exact ⟨k + 1, by omega, by go_num, by rw [Hn.out]; exact hst, bl_set hb2w (Nat.le_refl _) _, HT⟩
                case measure => simp [intOf]; omega
              · have hK := kids2 htw
                obtain ⟨A, hA, hAk⟩ := a_in hok (by rw [hK]; omega)
                obtain ⟨B, hB, hBk⟩ := b_in hok hK
                have Hn := Lib.hid (named_two Hd.out hK hA hB)
                have Hl := Lib.hid (fun W => l02Leaf_at hlf W)
                have Ht := Lib.hid (fun W => l02Two_at htw W)
                have HA := Lib.hid hA
                have HB := Lib.hid hB
                clear hok hkd hlf htw hK hA hB
                go_wp2_with (first | (go_at_call 82; refine (Calls.mono (by exact HCall.out) ?_); rintro e w2 ⟨rfl, n, hw2⟩; have hown2 := own_drewN Hown.out n; rw [← hw2] at hown2; have hb2w := bl_drewN hbw n; rw [← hw2] at hb2w; have hN3 := HN2.out.keep (bl_drewN (bl_refl _) n); rw [← hw2] at hN3; obtain ⟨c0, c1, c2⟩ := hN3.facts; rw [HA.out] at c1; rw [HB.out] at c2; obtain ⟨cA, hcA, hd1, hf1, hst⟩ := bump hown2 (A := A) (by omega) (named_small L (by omega)); obtain ⟨cB, hcB, hd2, hf2, hst2⟩ := bump hst (A := B) (by omega) (named_small1 L (by omega) A); have m0 := cellfar c0 (show w.heap.size ≠ g by omega) A (.int .i64 ((cA : Nat) + 1 : Int)); have m2 := cellfar c2 (show w.heap.size ≠ g by omega) A (.int .i64 ((cA : Nat) + 1 : Int)); clear hw2 hN3) | (go_at_call 66; refine (Calls.mono (by exact Hl.out _) ?_); rintro e w' ⟨rfl, rfl⟩) | (go_at_call 67; refine (Calls.mono (by exact Ht.out _) ?_); rintro e w' ⟨rfl, rfl⟩))
                go_roundw
                case rel => exact ⟨k + 1, by omega, by go_num, by rw [Hn.out]; exact hst2, bl_set (bl_set hb2w (Nat.le_refl _) _) (Nat.le_refl _) _, HT⟩
                case measure => simp [intOf]; omega
            · have hK := kids0 hkd hlf
              have htw : twoK d.k = false := by rw [two_kids, hK]; rfl
              have Hn := Lib.hid (named_leaf Hd.out hK)
              have Hl := Lib.hid (fun W => l02Leaf_at hlf W)
              have Ht := Lib.hid (fun W => l02Two_at htw W)
              clear hok hkd hlf htw hK
              go_wp2_with (first | (go_at_call 82; refine (Calls.mono (by exact HCall.out) ?_); rintro e w2 ⟨rfl, n, hw2⟩; have hown2 := own_drewN Hown.out n; rw [← hw2] at hown2; have hb2w := bl_drewN hbw n; rw [← hw2] at hb2w; have hN3 := HN2.out.keep (bl_drewN (bl_refl _) n); rw [← hw2] at hN3; obtain ⟨c0, c1, c2⟩ := hN3.facts; clear hw2 hN3) | (go_at_call 66; refine (Calls.mono (by exact Hl.out _) ?_); rintro e w' ⟨rfl, rfl⟩) | (go_at_call 67; refine (Calls.mono (by exact Ht.out _) ?_); rintro e w' ⟨rfl, rfl⟩))
              go_roundw
              case rel => exact ⟨k + 1, by omega, by go_num, by rw [Hn.out]; exact hown2, hb2w, HT⟩
              case measure => simp [intOf]; omega
        · obtain rfl : k = L.length := by omega
          have HV := Lib.hid (valid_eq ⟨hl, hh⟩ hto.out)
          clear hto hlt
          have hn1 : ((L.length : Int) - 1) = ((L.length - 1 : Nat) : Int) := by omega
          go_wp2_with fail
          go_loopw [7] (fun i wx => ∃ j : Nat, j ≤ L.length - 1 ∧ i = .int .i64 j ∧ wx = wr ∧ RowKit.Hid (onceTo L L.length j = true)) (fun i _ => L.length - (intOf i).toNat)
          case atStart => exact ⟨0, Nat.zero_le _, rfl, rfl, Lib.hid rfl⟩
          case round =>
            obtain ⟨j, hj, rfl, rfl, hon⟩ := hrel
            by_cases hjl : j < L.length - 1
            · have hd1 := (hown.cellAt j (by omega)).trans (cntRow_get (named L L.length) (by omega))
              cases hc : ((((named L L.length).count j : Nat) : Int) != 1)
              · have HU := Lib.hid (once_yes hon.out (by simp at hc; omega))
                go_wp2_with fail
                go_roundw
                case rel => exact ⟨j + 1, by omega, by go_num, trivial, HU⟩
                case measure => simp [intOf]; omega
              · have HN := Lib.hid (once_no (L := L) (n := L.length) hjl (by simp at hc; omega))
                go_wp2_with fail
                go_ret
                exact ⟨ret_bool (by rw [HV.out, HN.out]), hbw⟩
            · have e : j = L.length - 1 := by omega
              rw [e] at hon
              go_wp2_with fail
              go_ret
              exact ⟨ret_bool (by rw [HV.out, hon.out]), hbw⟩
    · have t1 : decide ((L.length : Int) < 1) = false := by simp; omega
      have t2 : decide ((16 : Int) < L.length) = true := by simp; omega
      have HV := Lib.hid (valid_len (L := L) (by omega))
      go_enter Try.func49, Try.ntmps49
      go_wp2_with fail
      go_ret
      exact ⟨ret_bool HV.out.symm, bl_refl _⟩
  · have t1 : decide ((L.length : Int) < 1) = true := by simp; omega
    have HV := Lib.hid (valid_len (L := L) (by omega))
    go_enter Try.func49, Try.ntmps49
    go_wp2_with fail
    go_ret
    exact ⟨ret_bool HV.out.symm, bl_refl _⟩
end Go.Proofs.Ytpbccoobkmahlaa
