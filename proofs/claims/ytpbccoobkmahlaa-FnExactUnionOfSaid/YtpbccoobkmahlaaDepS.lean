/- How deep a shape is, as the reference reckons it. No conditions but bounds. -/
import Derived.Test.YtpbccoobkmahlaaDep
import Derived.Deep.AppendLies
namespace Go.Proofs.Ytpbccoobkmahlaa
open Go.Fl Go.RowKit

theorem l00Max_any (a b m : Nat) (h : max a b = m) (w : World) : Calls Try.prog 68 #[.int .i64 (a : Nat), .int .i64 (b : Nat)] w fun e w' => e = .returned (.int .i64 ((m : Nat) : Int)) ∧ w' = w := by
  by_cases hab : b < a
  · have h1 : (b : Int) < a := by omega
    have h2 : m = a := by omega
    clear h
    subst h2
    go_enter Try.func68, Try.ntmps68
    go_wp2
    go_ret
    exact ⟨rfl, rfl⟩
  · have h1 : ¬ (b : Int) < a := by omega
    have h2 : m = b := by omega
    clear h
    subst h2
    go_enter Try.func68, Try.ntmps68
    go_wp2
    go_ret
    exact ⟨rfl, rfl⟩
theorem ints_at {w : World} {B g n c A : Nat} {D : List Nat} (h : w.ownsRow B 2 1 (.slice (some ⟨g, 0, none⟩) n c) n (D.map fun x : Nat => Value.int .i64 (x : Nat))) (hA : A < D.length) (hn : D.length = n) : w.cell? ⟨g, A, none⟩ = some (.int .i64 ((D.getD A 0 : Nat) : Int)) := by
  rw [h.cellAt A (by omega)]; simp [hA]
theorem ints_next {w : World} {B k K y : Nat} {v : Value} {L : List Nd} {d : Nd} (hd : at_ L k = d) (hK : kidsK d.k = K) (hp : pmx (deps L k) d K = y) (h : w.ownsRow B 2 1 v (k + 1) ((deps L k).map (fun x : Nat => Value.int .i64 (x : Nat)) ++ [.int .i64 ((y : Nat) + 1 : Int)])) :
    w.ownsRow B 2 1 v (k + 1) ((deps L (k + 1)).map fun x : Nat => Value.int .i64 (x : Nat)) := by
  rw [deps_succ hd hK hp]; simpa using h
/-- A cell of a block that the gathering does not write. -/
theorem cell_grown_own {w W w2 : World} {p : Addr} {u v : Value} {B n s : Nat} {e : TypeId} {xs : List Value} (h : w.cell? p = some u) (ho : W.ownsRow B e s v n xs) (hb : Below w.heap.size w W) (hg : W.grownBy w2 v.ownBlock) (hp : p.block < B) : w2.cell? p = some u :=
  hg.cell (cellk h hb) (fun e => by have := (ho.lt _ e.symm).1; omega)
theorem pmx1 {D : List Nat} {d : Nd} {A : Nat} (h : d.a = (A : Nat)) : pmx D d 1 = D.getD A 0 := by
  rw [pmx_succ (A := A) (by simpa [kd] using h), pmx_zero]; omega
theorem pmx2 {D : List Nat} {d : Nd} {A B : Nat} (h : d.a = (A : Nat)) (h' : d.b = (B : Nat)) : pmx D d 2 = max (D.getD A 0) (D.getD B 0) := by
  rw [pmx_succ (A := B) (by simpa [kd] using h'), pmx1 h]
set_option maxHeartbeats 8000000 in
set_option maxRecDepth 100000 in
theorem spec_DepthOf_any (v : Value) (L : List Nd) (w : World) (h : NodesIn w v L) (hm : Mod L) : Calls Try.prog 28 #[.agg #[v]] w (DOut w L) := by
  obtain ⟨i0, hi, hz0, hz1, hz2⟩ := info_parts info_i64
  obtain ⟨av, cv, rfl, _⟩ := id h
  have H := Lib.hid h
  have HM := Lib.hid hm
  have hlm := hm.1
  have hb0 := bl1 w (.cells #[.slice av L.length cv] 26)
  have hbx := box1 w (.slice av L.length cv) 26
  clear h hm
  cases hV : valid L
  · have HV := Lib.hid hV
    have HC := Lib.hid (fun W hc hW => l02Is_at hV w.heap.size 0 (.slice av L.length cv) W hc hW HM.out)
    clear hV
    go_enter Try.func28, Try.ntmps28
    go_wp2_with (go_at_call 49; refine (Calls.mono (by exact HC.out _ hbx (H.out.keep hb0)) ?_); rintro e w1 ⟨rfl, hb1⟩)
    go_ret2
    exact DOut_no HV.out (bl_call hb0 hb1)
  · have HV := Lib.hid hV
    have HC := Lib.hid (fun W hc hW => l02Is_at hV w.heap.size 0 (.slice av L.length cv) W hc hW HM.out)
    have hlen := valid_parts hV
    have hn1 := hlen.1
    have hn2 := hlen.2.1
    clear hV hlen
    go_enter Try.func28, Try.ntmps28
    go_wp2_with (go_at_call 49; refine (Calls.mono (by exact HC.out _ hbx (H.out.keep hb0)) ?_); rintro e w1 ⟨rfl, hb1⟩; have hbx1 := cellk hbx hb1; have e1 := bl_call hb0 hb1; have hsz := e1.size)
    have e2 := bl_alloc e1 (.cells #[] 2)
    have hbx2 := cellk hbx1 (bl1 w1 (.cells #[] 2))
    have hsz1 : w.heap.size + 1 ≤ w1.heap.size := World.block_lt_of_cell? w1 _ hbx1
    have hown := World.ownsRow_made (base := w.heap.size + 1) (e := 2) (size := 1) w1 #[] 0 hsz1 (by decide) (by simp)
    clear hb0 hb1 hbx hbx1 e1 HC
    go_loopw [4, 5] (fun v i wr => ∃ k : Nat, k ≤ L.length ∧ i = .int .i64 k ∧ wr.ownsRow (w.heap.size + 1) 2 1 v k ((deps L k).map fun x : Nat => Value.int .i64 (x : Nat)) ∧ Below w.heap.size w wr ∧ wr.cell? ⟨w.heap.size, 0, none⟩ = some (.slice av L.length cv)) (fun _ i _ => L.length - (intOf i).toNat)
    case atStart => exact ⟨0, Nat.zero_le _, rfl, hown, e2, hbx2⟩
    case round =>
      clear hown e2 hbx2
      obtain ⟨k, hk, rfl, hown, hbw, hbx⟩ := hrel
      have hDl := deps_len L k
      by_cases hlt : k < L.length
      · obtain ⟨g, p, rfl, hg, hNd⟩ := (H.out.keep hbw).at_ hlt
        obtain ⟨d, hd⟩ : ∃ d, at_ L k = d := ⟨_, rfl⟩
        have hNd2 : NdAt wr g (p + k * 4) d := by rw [← hd]; exact hNd
        have hok : okNd k d = true := by rw [← hd]; exact valid_ok HV.out hlt
        obtain ⟨c0, c1, c2⟩ := hNd2.facts
        have hsz2 := hbw.size
        have hbz : w.heap.size < wr.heap.size := World.block_lt_of_cell? wr _ hbx
        have Hd := Lib.hid hd
        have hkd := okNd_kind hok
        clear hNd hNd2 hd
        cases hlf : leafK d.k
        · cases htw : twoK d.k
          · have hK := kids1 hkd hlf htw
            obtain ⟨A, hA, hAk⟩ := a_in hok (by rw [hK]; omega)
            have Hp := Lib.hid (pmx1 (D := deps L k) hA)
            obtain ⟨gv, cp, rfl, _⟩ := hown.form (by omega)
            have hr := ints_at hown (A := A) (by omega) hDl
            have hyb := getD_le (deps_le L k) A
            obtain ⟨y, hy⟩ : ∃ y, (deps L k).getD A 0 = y := ⟨_, rfl⟩
            rw [hy] at hr hyb Hp
            have HK := Lib.hid hK
            have Hl := Lib.hid (fun W => l02Leaf_at hlf W)
            have Ht := Lib.hid (fun W => l02Two_at htw W)
            rw [hA] at c1
            clear hok hkd hlf htw hA hy hK
            go_wp2_with (first | (go_at_call 66; refine (Calls.mono (by exact Hl.out _) ?_); rintro e w' ⟨rfl, he⟩; subst w') | (go_at_call 67; refine (Calls.mono (by exact Ht.out _) ?_); rintro e w' ⟨rfl, he⟩; subst w') | (at_builtin; refine wpList_append_own _ rfl (.tmp 49) (.tmp 52) 52 rfl (w.heap.size + 1) 2 i0 (.int .i64 0) 1 8 Try.underlying52 hi hz0 hz1 hz2 rfl (by decide) _ k _ rfl (hown.alloc _) ⟨wr.heap.size, 0, none⟩ 1 1 [.int .i64 ((y : Nat) + 1 : Int)] rfl rfl (new1 wr _ _) (one1 rfl) (by unfold maxLen; omega) (by omega) (by simp; omega) ?_; intro v' w2 hown' hgrow _))
            have hb3 := grown_below (bl_alloc hbw _) (hown.alloc _) (Nat.le_succ _) hgrow
            have hbx3 := cell_grown_own hbx (hown.alloc _) (bl1 _ _) hgrow (by simp)
            clear hgrow
            go_roundw
            case rel => exact ⟨k + 1, by omega, by go_num, by exact ints_next Hd.out HK.out Hp.out hown', hb3, hbx3⟩
            case measure => simp [intOf]; omega
          · have hK := kids2 htw
            obtain ⟨A, hA, hAk⟩ := a_in hok (by rw [hK]; omega)
            obtain ⟨B, hB, hBk⟩ := b_in hok hK
            have Hp := Lib.hid (pmx2 (D := deps L k) hA hB)
            obtain ⟨gv, cp, rfl, _⟩ := hown.form (by omega)
            have hr := ints_at hown (A := A) (by omega) hDl
            have hr2 := ints_at hown (A := B) (by omega) hDl
            have hyb := getD_le (deps_le L k) A
            have hyb2 := getD_le (deps_le L k) B
            obtain ⟨ya, hya⟩ : ∃ y, (deps L k).getD A 0 = y := ⟨_, rfl⟩
            obtain ⟨yb, hybb⟩ : ∃ y, (deps L k).getD B 0 = y := ⟨_, rfl⟩
            rw [hya, hybb] at Hp
            rw [hya] at hr hyb
            rw [hybb] at hr2 hyb2
            obtain ⟨y, hy⟩ : ∃ y, max ya yb = y := ⟨_, rfl⟩
            rw [hy] at Hp
            have hyy : y ≤ 16 := by omega
            have HK := Lib.hid hK
            have Hl := Lib.hid (fun W => l02Leaf_at hlf W)
            have Ht := Lib.hid (fun W => l02Two_at htw W)
            have Hx := Lib.hid (fun W => l00Max_any ya yb y hy W)
            rw [hA] at c1
            rw [hB] at c2
            clear hok hkd hlf htw hA hB hy hK hya hybb
            go_wp2_with (first | (go_at_call 66; refine (Calls.mono (by exact Hl.out _) ?_); rintro e w' ⟨rfl, he⟩; subst w') | (go_at_call 67; refine (Calls.mono (by exact Ht.out _) ?_); rintro e w' ⟨rfl, he⟩; subst w') | (go_at_call 68; refine (Calls.mono (by exact Hx.out _) ?_); rintro e w' ⟨rfl, he⟩; subst w') | (at_builtin; refine wpList_append_own _ rfl (.tmp 49) (.tmp 52) 52 rfl (w.heap.size + 1) 2 i0 (.int .i64 0) 1 8 Try.underlying52 hi hz0 hz1 hz2 rfl (by decide) _ k _ rfl (hown.alloc _) ⟨wr.heap.size, 0, none⟩ 1 1 [.int .i64 ((y : Nat) + 1 : Int)] rfl rfl (new1 wr _ _) (one1 rfl) (by unfold maxLen; omega) (by omega) (by simp; omega) ?_; intro v' w2 hown' hgrow _))
            have hb3 := grown_below (bl_alloc hbw _) (hown.alloc _) (Nat.le_succ _) hgrow
            have hbx3 := cell_grown_own hbx (hown.alloc _) (bl1 _ _) hgrow (by simp)
            clear hgrow
            go_roundw
            case rel => exact ⟨k + 1, by omega, by go_num, by exact ints_next Hd.out HK.out Hp.out hown', hb3, hbx3⟩
            case measure => simp [intOf]; omega
        · have hK := kids0 hkd hlf
          have htw : twoK d.k = false := by rw [two_kids, hK]; rfl
          have HK := Lib.hid hK
          have Hl := Lib.hid (fun W => l02Leaf_at hlf W)
          have Ht := Lib.hid (fun W => l02Two_at htw W)
          clear hok hkd hlf htw hK
          go_wp2_with (first | (go_at_call 66; refine (Calls.mono (by exact Hl.out _) ?_); rintro e w' ⟨rfl, he⟩; subst w') | (go_at_call 67; refine (Calls.mono (by exact Ht.out _) ?_); rintro e w' ⟨rfl, he⟩; subst w') | (at_builtin; refine wpList_append_own _ rfl (.tmp 49) (.tmp 52) 52 rfl (w.heap.size + 1) 2 i0 (.int .i64 0) 1 8 Try.underlying52 hi hz0 hz1 hz2 rfl (by decide) _ k _ rfl (hown.alloc _) ⟨wr.heap.size, 0, none⟩ 1 1 [.int .i64 1] rfl rfl (new1 wr _ _) (one1 rfl) (by unfold maxLen; omega) (by omega) (by simp; omega) ?_; intro v' w2 hown' hgrow _))
          have hb3 := grown_below (bl_alloc hbw _) (hown.alloc _) (Nat.le_succ _) hgrow
          have hbx3 := cell_grown_own hbx (hown.alloc _) (bl1 _ _) hgrow (by simp)
          clear hgrow
          go_roundw
          case rel => exact ⟨k + 1, by omega, by go_num, by exact ints_next (y := 0) Hd.out HK.out rfl hown', hb3, hbx3⟩
          case measure => simp [intOf]; omega
      · obtain rfl : k = L.length := by omega
        obtain ⟨gv, cp, rfl, _⟩ := hown.form (by omega)
        obtain ⟨x, hx⟩ : ∃ x, (deps L L.length).getD (L.length - 1) 0 = x := ⟨_, rfl⟩
        have hd1 := ints_at hown (A := L.length - 1) (by omega) hDl
        rw [hx] at hd1
        have HX := Lib.hid hx
        have hn3 : ((L.length : Int) - 1) = ((L.length - 1 : Nat) : Int) := by omega
        have hn4 : ((L.length - 1 : Nat) : Int) < L.length := by omega
        clear hx hDl hown hlt
        go_wp2_with fail
        go_ret2
        exact DOut_yes HV.out HX.out hbw
end Go.Proofs.Ytpbccoobkmahlaa
