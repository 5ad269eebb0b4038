/- The reference's l02Put: the nodes of a right shape, with children later by so many, added to others. No conditions but bounds. -/
import Derived.Test.YtpbccoobkmahlaaOneN
namespace Go.Proofs.Ytpbccoobkmahlaa
open Go.Fl Go.RowKit

def shN (n : Nat) (d : Nd) : Nd := ⟨d.k, if kidsK d.k = 0 then d.a else d.a + (n : Nat), if kidsK d.k = 2 then d.b + (n : Nat) else d.b, d.xs⟩
theorem shN0 {n : Nat} {d : Nd} {x : Int} (h : kidsK d.k = 0) (ha : d.a = x) : shN n d = ⟨d.k, x, d.b, d.xs⟩ := by simp [shN, h, ha]
theorem shN1 {n A : Nat} {d : Nd} (h : kidsK d.k = 1) (ha : d.a = (A : Nat)) : shN n d = ⟨d.k, (A : Int) + (n : Nat), d.b, d.xs⟩ := by simp [shN, h, ha]
theorem shN2 {n A B : Nat} {d : Nd} (h : kidsK d.k = 2) (ha : d.a = (A : Nat)) (hb : d.b = (B : Nat)) : shN n d = ⟨d.k, (A : Int) + (n : Nat), (B : Int) + (n : Nat), d.xs⟩ := by simp [shN, h, ha, hb]
theorem sh_next {L M : List Nd} {n k : Nat} {d e : Nd} (hk : k < L.length) (hd : at_ L k = d) (he : shN n d = e) : M ++ (L.take (k + 1)).map (shN n) = (M ++ (L.take k).map (shN n)) ++ [e] := by
  rw [List.take_succ_eq_append_getElem hk, List.map_append, ← he, ← hd]; simp [at_, hk]
theorem nums_few {i : Nat} {d : Nd} (h : okNd i d = true) : d.xs.length ≤ 4 := by
  simp only [okNd, Bool.and_eq_true, numsB, decide_eq_true_eq] at h
  have := h.2.1.1
  have := cnt_le d.k
  omega
theorem mod_valid {L : List Nd} (h : valid L = true) : Mod L := by
  refine ⟨by have := (valid_parts h).2.1; omega, fun d hd => ?_⟩
  obtain ⟨i, hi, rfl⟩ := List.mem_iff_getElem.1 hd
  have hk := valid_ok h hi
  have he : at_ L i = L[i] := by simp [at_, hi]
  rw [he] at hk
  have := nums_few hk
  omega
/-- What the call leaves: a gathering and what was before. -/
def GPut (w0 : World) (M : List Nd) : Ending → World → Prop := fun e w' => ∃ u, e = .returned u ∧ Gath w' w0.heap.size u M ∧ Below w0.heap.size w0 w'
theorem Gath.weak {w : World} {lo : Nat} {v : Value} {M : List Nd} (h : Gath w lo v M) : lo ≤ w.heap.size ∨ M = [] := by
  obtain ⟨P, rfl, hP⟩ := h
  rcases hP.1.2 with ⟨_, h0⟩ | ⟨g, cap, cur, _, hg, hh, _⟩
  · right; rw [List.length_eq_zero_iff.1 h0]; rfl
  · left; have := (Array.getElem?_eq_some_iff.1 hh).1; omega
set_option maxHeartbeats 16000000 in
set_option maxRecDepth 100000 in
theorem l02Put_any (b n : Nat) (v u : Value) (L M : List Nd) (w0 w : World) (hcell : w0.cell? ⟨b, 0, none⟩ = some v) (h : NodesIn w0 v L) (hV : valid L = true) (h0 : Below w0.heap.size w0 w) (hg : Gath w w0.heap.size u M) (hM : M.length ≤ 64) (hn : n ≤ 64) :
    Calls Try.prog 72 #[u, .pointer (some ⟨b, 0, none⟩), .int .i64 (n : Nat)] w (GPut w0 (M ++ L.map (shN n))) := by
  obtain ⟨i0, hi, hz0, hz1, hz2⟩ := info_parts info_f32
  obtain ⟨j0, hj, hy0, hy1, hy2⟩ := info_parts info_nd
  obtain ⟨av, cv, rfl, _⟩ := id h
  obtain ⟨ua, uc, hu⟩ := hg.form
  subst hu
  have H := Lib.hid h
  have HV := Lib.hid hV
  have hlen := (valid_parts hV).2.1
  have hbb : (⟨b, 0, none⟩ : Addr).block < w0.heap.size := World.block_lt_of_cell? w0 _ hcell
  have HC := Lib.hid hcell
  have hbx0 := (h0.cell (p := ⟨b, 0, none⟩) hbb).trans hcell
  clear h hV hcell
  go_enter Try.func72, Try.ntmps72
  go_wp2_with fail
  go_loopw [0, 7] (fun s i wr => ∃ (k : Nat) (v' : Value), k ≤ L.length ∧ i = .int .i64 k ∧ s = v' ∧ Gath wr w0.heap.size v' (M ++ (L.take k).map (shN n)) ∧ Below w0.heap.size w0 wr) (fun _ i _ => L.length - (intOf i).toNat)
  case atStart => exact ⟨0, _, Nat.zero_le _, rfl, rfl, by simpa using hg, h0⟩
  case round =>
    clear hg h0 hbx0
    obtain ⟨k, v', hk, rfl, rfl, hg, hbw⟩ := hrel
    have hbx := (hbw.cell (p := ⟨b, 0, none⟩) hbb).trans HC.out
    by_cases hlt : k < L.length
    · obtain ⟨g, p, rfl, hgl, hNd⟩ := (H.out.keep hbw).at_ hlt
      obtain ⟨d, hd⟩ : ∃ d, at_ L k = d := ⟨_, rfl⟩
      have hNd2 : NdAt wr g (p + k * 4) d := by rw [← hd]; exact hNd
      have hok : okNd k d = true := by rw [← hd]; exact valid_ok HV.out hlt
      have hkd := okNd_kind hok
      have hdx : d.xs.length ≤ 1048576 := by have := nums_few hok; omega
      have hlk : (M ++ (L.take k).map (shN n)).length = M.length + k := by simp; omega
      obtain ⟨va, vc, hv⟩ := hg.form
      rw [hlk] at hv
      subst hv
      obtain ⟨c0, c1, c2, nv, c3, hF⟩ := hNd2
      obtain ⟨nva, nvc, rfl, _⟩ := id hF
      have HLK := Lib.hid hlk
      have Hd := Lib.hid hd
      have HG := Lib.hid hg
      have hsz : w0.heap.size ≤ wr.heap.size := hbw.size
      have zz := hlt
      clear hNd hd hg hlk
      cases hlf : leafK d.k
      · cases htw : twoK d.k
        · have hK := kids1 hkd hlf htw
          obtain ⟨A, hA, hAk⟩ := a_in hok (by rw [hK]; omega)
          have HT := Lib.hid (sh_next (M := M) hlt Hd.out (shN1 (n := n) hK hA))
          rw [hA] at c1
          have HF := Lib.hid (hF.keep (bl2 wr (.cells #[.int .i64 d.k, .int .i64 ((A : Nat)), .int .i64 (d.b), .slice nva d.xs.length nvc] 78) (.cells #[] 61)))
          have hown := World.ownsRow_made (base := (wr.alloc (.cells #[.int .i64 d.k, .int .i64 ((A : Nat)), .int .i64 (d.b), .slice nva d.xs.length nvc] 78)).heap.size) (e := 61) (size := 1) (wr.alloc (.cells #[.int .i64 d.k, .int .i64 ((A : Nat)), .int .i64 (d.b), .slice nva d.xs.length nvc] 78)) #[] 0 (Nat.le_refl _) (by decide) (by simp)
          have hB2 : Bl4 ((wr.alloc (.cells #[.int .i64 d.k, .int .i64 ((A : Nat)), .int .i64 (d.b), .slice nva d.xs.length nvc] 78)).alloc (.cells #[] 61)) wr.heap.size (.int .i64 d.k) (.int .i64 ((A : Nat))) (.int .i64 (d.b)) (.slice nva d.xs.length nvc) := (Below.heap_alloc _ _ _ (by simp)).trans (heap_alloc_new wr _)
          have hbl2 := bl2 wr (.cells #[.int .i64 d.k, .int .i64 ((A : Nat)), .int .i64 (d.b), .slice nva d.xs.length nvc] 78) (.cells #[] 61)
          obtain ⟨o0, o1, o2, o3⟩ := hB2.cells
          have HO := Lib.hid hown
          have HB2 := Lib.hid hB2
          have Hl := Lib.hid (fun W => l02Leaf_at hlf W)
          have Ht := Lib.hid (fun W => l02Two_at htw W)
          clear hok hkd hlf htw hK hF hown hB2 hA
          go_wp2_with (first | (at_builtin; refine wpList_append_fin (w0 := (wr.alloc (.cells #[.int .i64 d.k, .int .i64 ((A : Nat)), .int .i64 (d.b), .slice nva d.xs.length nvc] 78))) rfl (.tmp 25) (.tmp 27) rfl i0 hi hz0 hz1 hz2 (.slice (some ⟨wr.heap.size + 1, 0, none⟩) 0 0) rfl (by simpa using HO.out) (.slice nva d.xs.length nvc) rfl d.xs HF.out hdx (by simp) ?_; intro nv2 w3 hN hb3 hg3; obtain ⟨na, nc, hnv, _⟩ := id hN; subst hnv; have hB3 : Bl4 w3 wr.heap.size (.int .i64 d.k) (.int .i64 ((A : Nat))) (.int .i64 (d.b)) (.slice nva d.xs.length nvc) := (hg3.block wr.heap.size (by simp; omega) (by simp [Value.ownBlock])).trans HB2.out; obtain ⟨r0, r1, r2, r3⟩ := hB3.cells; have f0 := hB3.frozen 0; have f1 := hB3.frozen 1; have f2 := hB3.frozen 2; have f3 := hB3.frozen 3; have hbw3 : Below wr.heap.size wr w3 := hbl2.trans (hb3.mono (by simp)); have hz3 := hb3.size) | (go_at_call 66; refine (Calls.mono (by exact Hl.out _) ?_); rintro e w' ⟨rfl, he⟩; subst w') | (go_at_call 67; refine (Calls.mono (by exact Ht.out _) ?_); rintro e w' ⟨rfl, he⟩; subst w') | (at_builtin; have hb7 : Below wr.heap.size wr (((w3.setCell ⟨wr.heap.size, 3, none⟩ (.slice na d.xs.length nc)).setCell ⟨wr.heap.size, 1, none⟩ (.int .i64 ((A : Int) + (n : Nat)))).alloc (.cells #[.int .i64 d.k, .int .i64 ((A : Int) + (n : Nat)), .int .i64 (d.b), .slice na d.xs.length nc] 78)) := bl_alloc (bl_set (bl_set hbw3 (Nat.le_refl _) _) (Nat.le_refl _) _) _; have hN7 : NewNum wr (((w3.setCell ⟨wr.heap.size, 3, none⟩ (.slice na d.xs.length nc)).setCell ⟨wr.heap.size, 1, none⟩ (.int .i64 ((A : Int) + (n : Nat)))).alloc (.cells #[.int .i64 d.k, .int .i64 ((A : Int) + (n : Nat)), .int .i64 (d.b), .slice na d.xs.length nc] 78)) (.slice na d.xs.length nc) d.xs := (NewNum.keep ((hN.low (by simp) _).low (by simp) _) (bl1 _ _)).base (by simp); obtain ⟨xs5, hrow, hpush⟩ := HG.out.push hb7 (d := ⟨d.k, (A : Int) + (n : Nat), d.b, d.xs⟩) hN7 hsz; rw [HLK.out] at hrow hpush; refine wpList_append_lies _ rfl (.tmp 47) (.tmp 49) 24 rfl w0.heap.size 78 j0 _ 4 48 Try.underlying24 hj hy0 hy1 hy2 rfl (by decide) (.slice va (M.length + k) vc) (M.length + k) xs5 rfl hrow ⟨w3.heap.size, 0, none⟩ 1 1 [.int .i64 d.k, .int .i64 ((A : Int) + (n : Nat)), .int .i64 (d.b), .slice na d.xs.length nc] rfl rfl (news4 (by simpa [World.setCell] using heap_alloc_new ((w3.setCell ⟨wr.heap.size, 3, none⟩ (.slice na d.xs.length nc)).setCell ⟨wr.heap.size, 1, none⟩ (.int .i64 ((A : Int) + (n : Nat)))) (.cells #[.int .i64 d.k, .int .i64 ((A : Int) + (n : Nat)), .int .i64 (d.b), .slice na d.xs.length nc] 78))) (by simp [Value.oneCell']) (by decide) (by unfold maxLen; omega) (by omega) (by simp [World.setCell]; simp at hz3; omega) _ rfl ?_; intro g5 c5 w5 hown5 hgrow5 _ _))
          have hG5 := hpush _ _ hown5 hgrow5
          have hb5 : Below w0.heap.size w0 w5 := (hbw.trans (hb7.mono hsz)).grown hgrow5 (by simp [World.setCell]; simp at hz3; omega) (fun r hr => (HG.out.block r hr).1)
          go_roundw
          case rel => exact ⟨k + 1, _, by omega, by go_num, rfl, by rw [HT.out]; exact hG5, hb5⟩
          case measure => simp [intOf]; omega
        · have hK := kids2 htw
          obtain ⟨A, hA, hAk⟩ := a_in hok (by rw [hK]; omega)
          obtain ⟨B, hB, hBk⟩ := b_in hok hK
          have HT := Lib.hid (sh_next (M := M) hlt Hd.out (shN2 (n := n) hK hA hB))
          rw [hA] at c1
          rw [hB] at c2
          have HF := Lib.hid (hF.keep (bl2 wr (.cells #[.int .i64 d.k, .int .i64 ((A : Nat)), .int .i64 ((B : Nat)), .slice nva d.xs.length nvc] 78) (.cells #[] 61)))
          have hown := World.ownsRow_made (base := (wr.alloc (.cells #[.int .i64 d.k, .int .i64 ((A : Nat)), .int .i64 ((B : Nat)), .slice nva d.xs.length nvc] 78)).heap.size) (e := 61) (size := 1) (wr.alloc (.cells #[.int .i64 d.k, .int .i64 ((A : Nat)), .int .i64 ((B : Nat)), .slice nva d.xs.length nvc] 78)) #[] 0 (Nat.le_refl _) (by decide) (by simp)
          have hB2 : Bl4 ((wr.alloc (.cells #[.int .i64 d.k, .int .i64 ((A : Nat)), .int .i64 ((B : Nat)), .slice nva d.xs.length nvc] 78)).alloc (.cells #[] 61)) wr.heap.size (.int .i64 d.k) (.int .i64 ((A : Nat))) (.int .i64 ((B : Nat))) (.slice nva d.xs.length nvc) := (Below.heap_alloc _ _ _ (by simp)).trans (heap_alloc_new wr _)
          have hbl2 := bl2 wr (.cells #[.int .i64 d.k, .int .i64 ((A : Nat)), .int .i64 ((B : Nat)), .slice nva d.xs.length nvc] 78) (.cells #[] 61)
          obtain ⟨o0, o1, o2, o3⟩ := hB2.cells
          have HO := Lib.hid hown
          have HB2 := Lib.hid hB2
          have Hl := Lib.hid (fun W => l02Leaf_at hlf W)
          have Ht := Lib.hid (fun W => l02Two_at htw W)
          clear hok hkd hlf htw hK hF hown hB2 hA hB
          go_wp2_with (first | (at_builtin; refine wpList_append_fin (w0 := (wr.alloc (.cells #[.int .i64 d.k, .int .i64 ((A : Nat)), .int .i64 ((B : Nat)), .slice nva d.xs.length nvc] 78))) rfl (.tmp 25) (.tmp 27) rfl i0 hi hz0 hz1 hz2 (.slice (some ⟨wr.heap.size + 1, 0, none⟩) 0 0) rfl (by simpa using HO.out) (.slice nva d.xs.length nvc) rfl d.xs HF.out hdx (by simp) ?_; intro nv2 w3 hN hb3 hg3; obtain ⟨na, nc, hnv, _⟩ := id hN; subst hnv; have hB3 : Bl4 w3 wr.heap.size (.int .i64 d.k) (.int .i64 ((A : Nat))) (.int .i64 ((B : Nat))) (.slice nva d.xs.length nvc) := (hg3.block wr.heap.size (by simp; omega) (by simp [Value.ownBlock])).trans HB2.out; obtain ⟨r0, r1, r2, r3⟩ := hB3.cells; have f0 := hB3.frozen 0; have f1 := hB3.frozen 1; have f2 := hB3.frozen 2; have f3 := hB3.frozen 3; have hbw3 : Below wr.heap.size wr w3 := hbl2.trans (hb3.mono (by simp)); have hz3 := hb3.size) | (go_at_call 66; refine (Calls.mono (by exact Hl.out _) ?_); rintro e w' ⟨rfl, he⟩; subst w') | (go_at_call 67; refine (Calls.mono (by exact Ht.out _) ?_); rintro e w' ⟨rfl, he⟩; subst w') | (at_builtin; have hb7 : Below wr.heap.size wr ((((w3.setCell ⟨wr.heap.size, 3, none⟩ (.slice na d.xs.length nc)).setCell ⟨wr.heap.size, 1, none⟩ (.int .i64 ((A : Int) + (n : Nat)))).setCell ⟨wr.heap.size, 2, none⟩ (.int .i64 ((B : Int) + (n : Nat)))).alloc (.cells #[.int .i64 d.k, .int .i64 ((A : Int) + (n : Nat)), .int .i64 ((B : Int) + (n : Nat)), .slice na d.xs.length nc] 78)) := bl_alloc (bl_set (bl_set (bl_set hbw3 (Nat.le_refl _) _) (Nat.le_refl _) _) (Nat.le_refl _) _) _; have hN7 : NewNum wr ((((w3.setCell ⟨wr.heap.size, 3, none⟩ (.slice na d.xs.length nc)).setCell ⟨wr.heap.size, 1, none⟩ (.int .i64 ((A : Int) + (n : Nat)))).setCell ⟨wr.heap.size, 2, none⟩ (.int .i64 ((B : Int) + (n : Nat)))).alloc (.cells #[.int .i64 d.k, .int .i64 ((A : Int) + (n : Nat)), .int .i64 ((B : Int) + (n : Nat)), .slice na d.xs.length nc] 78)) (.slice na d.xs.length nc) d.xs := (NewNum.keep (((hN.low (by simp) _).low (by simp) _).low (by simp) _) (bl1 _ _)).base (by simp); obtain ⟨xs5, hrow, hpush⟩ := HG.out.push hb7 (d := ⟨d.k, (A : Int) + (n : Nat), (B : Int) + (n : Nat), d.xs⟩) hN7 hsz; rw [HLK.out] at hrow hpush; refine wpList_append_lies _ rfl (.tmp 47) (.tmp 49) 24 rfl w0.heap.size 78 j0 _ 4 48 Try.underlying24 hj hy0 hy1 hy2 rfl (by decide) (.slice va (M.length + k) vc) (M.length + k) xs5 rfl hrow ⟨w3.heap.size, 0, none⟩ 1 1 [.int .i64 d.k, .int .i64 ((A : Int) + (n : Nat)), .int .i64 ((B : Int) + (n : Nat)), .slice na d.xs.length nc] rfl rfl (news4 (by simpa [World.setCell] using heap_alloc_new (((w3.setCell ⟨wr.heap.size, 3, none⟩ (.slice na d.xs.length nc)).setCell ⟨wr.heap.size, 1, none⟩ (.int .i64 ((A : Int) + (n : Nat)))).setCell ⟨wr.heap.size, 2, none⟩ (.int .i64 ((B : Int) + (n : Nat)))) (.cells #[.int .i64 d.k, .int .i64 ((A : Int) + (n : Nat)), .int .i64 ((B : Int) + (n : Nat)), .slice na d.xs.length nc] 78))) (by simp [Value.oneCell']) (by decide) (by unfold maxLen; omega) (by omega) (by simp [World.setCell]; simp at hz3; omega) _ rfl ?_; intro g5 c5 w5 hown5 hgrow5 _ _))
          have hG5 := hpush _ _ hown5 hgrow5
          have hb5 : Below w0.heap.size w0 w5 := (hbw.trans (hb7.mono hsz)).grown hgrow5 (by simp [World.setCell]; simp at hz3; omega) (fun r hr => (HG.out.block r hr).1)
          go_roundw
          case rel => exact ⟨k + 1, _, by omega, by go_num, rfl, by rw [HT.out]; exact hG5, hb5⟩
          case measure => simp [intOf]; omega
      · have hK := kids0 hkd hlf
        have htw : twoK d.k = false := by rw [two_kids, hK]; rfl
        have HT := Lib.hid (sh_next (M := M) hlt Hd.out (shN0 (n := n) (x := d.a) hK rfl))
        have HF := Lib.hid (hF.keep (bl2 wr (.cells #[.int .i64 d.k, .int .i64 (d.a), .int .i64 (d.b), .slice nva d.xs.length nvc] 78) (.cells #[] 61)))
        have hown := World.ownsRow_made (base := (wr.alloc (.cells #[.int .i64 d.k, .int .i64 (d.a), .int .i64 (d.b), .slice nva d.xs.length nvc] 78)).heap.size) (e := 61) (size := 1) (wr.alloc (.cells #[.int .i64 d.k, .int .i64 (d.a), .int .i64 (d.b), .slice nva d.xs.length nvc] 78)) #[] 0 (Nat.le_refl _) (by decide) (by simp)
        have hB2 : Bl4 ((wr.alloc (.cells #[.int .i64 d.k, .int .i64 (d.a), .int .i64 (d.b), .slice nva d.xs.length nvc] 78)).alloc (.cells #[] 61)) wr.heap.size (.int .i64 d.k) (.int .i64 (d.a)) (.int .i64 (d.b)) (.slice nva d.xs.length nvc) := (Below.heap_alloc _ _ _ (by simp)).trans (heap_alloc_new wr _)
        have hbl2 := bl2 wr (.cells #[.int .i64 d.k, .int .i64 (d.a), .int .i64 (d.b), .slice nva d.xs.length nvc] 78) (.cells #[] 61)
        obtain ⟨o0, o1, o2, o3⟩ := hB2.cells
        have HO := Lib.hid hown
        have HB2 := Lib.hid hB2
        have Hl := Lib.hid (fun W => l02Leaf_at hlf W)
        have Ht := Lib.hid (fun W => l02Two_at htw W)
        clear hok hkd hlf htw hK hF hown hB2 
        go_wp2_with (first | (at_builtin; refine wpList_append_fin (w0 := (wr.alloc (.cells #[.int .i64 d.k, .int .i64 (d.a), .int .i64 (d.b), .slice nva d.xs.length nvc] 78))) rfl (.tmp 25) (.tmp 27) rfl i0 hi hz0 hz1 hz2 (.slice (some ⟨wr.heap.size + 1, 0, none⟩) 0 0) rfl (by simpa using HO.out) (.slice nva d.xs.length nvc) rfl d.xs HF.out hdx (by simp) ?_; intro nv2 w3 hN hb3 hg3; obtain ⟨na, nc, hnv, _⟩ := id hN; subst hnv; have hB3 : Bl4 w3 wr.heap.size (.int .i64 d.k) (.int .i64 (d.a)) (.int .i64 (d.b)) (.slice nva d.xs.length nvc) := (hg3.block wr.heap.size (by simp; omega) (by simp [Value.ownBlock])).trans HB2.out; obtain ⟨r0, r1, r2, r3⟩ := hB3.cells; have f0 := hB3.frozen 0; have f1 := hB3.frozen 1; have f2 := hB3.frozen 2; have f3 := hB3.frozen 3; have hbw3 : Below wr.heap.size wr w3 := hbl2.trans (hb3.mono (by simp)); have hz3 := hb3.size) | (go_at_call 66; refine (Calls.mono (by exact Hl.out _) ?_); rintro e w' ⟨rfl, he⟩; subst w') | (go_at_call 67; refine (Calls.mono (by exact Ht.out _) ?_); rintro e w' ⟨rfl, he⟩; subst w') | (at_builtin; have hb7 : Below wr.heap.size wr ((w3.setCell ⟨wr.heap.size, 3, none⟩ (.slice na d.xs.length nc)).alloc (.cells #[.int .i64 d.k, .int .i64 (d.a), .int .i64 (d.b), .slice na d.xs.length nc] 78)) := bl_alloc (bl_set hbw3 (Nat.le_refl _) _) _; have hN7 : NewNum wr ((w3.setCell ⟨wr.heap.size, 3, none⟩ (.slice na d.xs.length nc)).alloc (.cells #[.int .i64 d.k, .int .i64 (d.a), .int .i64 (d.b), .slice na d.xs.length nc] 78)) (.slice na d.xs.length nc) d.xs := (NewNum.keep (hN.low (by simp) _) (bl1 _ _)).base (by simp); obtain ⟨xs5, hrow, hpush⟩ := HG.out.push hb7 (d := ⟨d.k, d.a, d.b, d.xs⟩) hN7 hsz; rw [HLK.out] at hrow hpush; refine wpList_append_lies _ rfl (.tmp 47) (.tmp 49) 24 rfl w0.heap.size 78 j0 _ 4 48 Try.underlying24 hj hy0 hy1 hy2 rfl (by decide) (.slice va (M.length + k) vc) (M.length + k) xs5 rfl hrow ⟨w3.heap.size, 0, none⟩ 1 1 [.int .i64 d.k, .int .i64 (d.a), .int .i64 (d.b), .slice na d.xs.length nc] rfl rfl (news4 (by simpa [World.setCell] using heap_alloc_new (w3.setCell ⟨wr.heap.size, 3, none⟩ (.slice na d.xs.length nc)) (.cells #[.int .i64 d.k, .int .i64 (d.a), .int .i64 (d.b), .slice na d.xs.length nc] 78))) (by simp [Value.oneCell']) (by decide) (by unfold maxLen; omega) (by omega) (by simp [World.setCell]; simp at hz3; omega) _ rfl ?_; intro g5 c5 w5 hown5 hgrow5 _ _))
        have hG5 := hpush _ _ hown5 hgrow5
        have hb5 : Below w0.heap.size w0 w5 := (hbw.trans (hb7.mono hsz)).grown hgrow5 (by simp [World.setCell]; simp at hz3; omega) (fun r hr => (HG.out.block r hr).1)
        go_roundw
        case rel => exact ⟨k + 1, _, by omega, by go_num, rfl, by rw [HT.out]; exact hG5, hb5⟩
        case measure => simp [intOf]; omega
    · obtain rfl : k = L.length := by omega
      rw [List.take_length] at hg
      obtain ⟨va, vc, rfl⟩ := hg.form
      have HG := Lib.hid hg
      clear hg
      go_wp2_with fail
      go_ret
      exact ⟨_, rfl, HG.out, hbw⟩
end Go.Proofs.Ytpbccoobkmahlaa
