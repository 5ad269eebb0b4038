/- The reference's l02Keep: the shape of those nodes that are kept. No conditions but bounds. -/
import Derived.Test.YtpbccoobkmahlaaBel
import Derived.Test.YtpbccoobkmahlaaGathN
namespace Go.Proofs.Ytpbccoobkmahlaa
open Go.Fl Go.RowKit

theorem Bl4.set1 {w : World} {g : Nat} {x y z u : Value} (h : Bl4 w g x y z u) (d : Value) : Bl4 (w.setCell ⟨g, 1, none⟩ d) g x d z u := by
  unfold Bl4 at h ⊢
  simp [World.setCell, Array.getElem?_modify, h]
theorem Bl4.set2 {w : World} {g : Nat} {x y z u : Value} (h : Bl4 w g x y z u) (d : Value) : Bl4 (w.setCell ⟨g, 2, none⟩ d) g x y d u := by
  unfold Bl4 at h ⊢
  simp [World.setCell, Array.getElem?_modify, h]
theorem Gath.keep {w w' : World} {lo : Nat} {v : Value} {M : List Nd} (h : Gath w lo v M) (hb : Below w.heap.size w w') : Gath w' lo v M := by
  obtain ⟨P, e, hP⟩ := h
  obtain ⟨q1, q2, q3, q4, q5⟩ := hP.keep hb
  exact ⟨P, e, q1, fun g hg => Nat.lt_of_lt_of_le (q2 g hg) hb.size, fun p hp => (q3 p hp).grow (Nat.le_refl _) hb.size, q4, Nat.le_refl _⟩
/-- Rows of different types lie in different blocks. -/
theorem own_ne {w : World} {B B' n n' s s' : Nat} {e e' : TypeId} {v u : Value} {xs ys : List Value} (h : w.ownsRow B e s v n xs) (h' : w.ownsRow B' e' s' u n' ys) (he : e ≠ e') : ∀ g, v.ownBlock = some g → u.ownBlock ≠ some g := by
  intro g hg hu
  rcases h.2 with ⟨rfl, _⟩ | ⟨g1, cap, cur, rfl, _, hh, _⟩
  · simp [Value.ownBlock] at hg
  rcases h'.2 with ⟨rfl, _⟩ | ⟨g2, cap', cur', rfl, _, hh', _⟩
  · simp [Value.ownBlock] at hu
  simp only [Value.ownBlock, Option.some.injEq] at hg hu
  subst hg
  subst hu
  rw [hh] at hh'
  simp at hh'
  exact he hh'.2
theorem row_setR {w : World} {B B' n m c s u : Nat} {e e' : TypeId} {v : Value} {xs ys : List Value} (h : w.ownsRow B e s v n xs) (h' : w.ownsRow B' e' 1 (.slice (some ⟨u, 0, none⟩) m c) m ys) (he : e ≠ e') (j : Nat) (y : Value) : (w.setCell ⟨u, j, none⟩ y).ownsRow B e s v n xs :=
  own_at h (fun k hk => Below.heap_setCell _ _ _ _ (fun e1 => own_ne h h' he k hk (by simp [Value.ownBlock, e1])))
theorem NumR.setR {w : World} {lo hi B m c u : Nat} {p : PNd} {ys : List Value} (h : NumR w lo hi p) (h' : w.ownsRow B 2 1 (.slice (some ⟨u, 0, none⟩) m c) m ys) (j : Nat) (y : Value) : NumR (w.setCell ⟨u, j, none⟩ y) lo hi p := by
  obtain ⟨a, c, e, he | ⟨ha, hq, ho⟩⟩ := h
  · exact ⟨a, c, e, .inl he⟩
  · exact ⟨a, c, e, .inr ⟨ha, hq, row_setR ho h' (by decide) j y⟩⟩
theorem Gath.setR {w : World} {lo B m c u : Nat} {v : Value} {M : List Nd} {ys : List Value} (h : Gath w lo v M) (h' : w.ownsRow B 2 1 (.slice (some ⟨u, 0, none⟩) m c) m ys) (j : Nat) (y : Value) : Gath (w.setCell ⟨u, j, none⟩ y) lo v M := by
  obtain ⟨P, e, h1, h2, h3, h4, h5⟩ := h
  exact ⟨P, e, row_setR h1 h' (by decide) j y, by simpa [World.setCell] using h2, fun p hp => by simpa [World.setCell] using (h3 p hp).setR h' j y, h4, Nat.le_refl _⟩
theorem Gath.set1 {w : World} {lo g : Nat} {v x : Value} {M : List Nd} (h : Gath w lo v M) (hB : Bl1 w g x) (y : Value) : Gath (w.setCell ⟨g, 0, none⟩ y) lo v M := by
  obtain ⟨P, e, h1, h2, h3, h4, h5⟩ := h
  exact ⟨P, e, row_set1 h1 hB (by decide) y, by simpa [World.setCell] using h2, fun p hp => by simpa [World.setCell] using (h3 p hp).set1 hB y, h4, Nat.le_refl _⟩
/-- A store into what lay before, made on both sides. -/
theorem below_set2 {w w1 : World} (h : Below w.heap.size w w1) (u j : Nat) (y : Value) : Below (w.setCell ⟨u, j, none⟩ y).heap.size (w.setCell ⟨u, j, none⟩ y) (w1.setCell ⟨u, j, none⟩ y) := by
  refine ⟨h.os, h.tape, h.output, by simpa [World.setCell] using h.size, fun k hk => ?_⟩
  have hk' : k < w.heap.size := by simpa [World.setCell] using hk
  simp only [World.setCell, Array.getElem?_modify]
  rw [h.block k hk']
theorem row_apart1 {w : World} {B n g : Nat} {v x : Value} {xs : List Value} (h : w.ownsRow B 78 4 v n xs) (hB : Bl1 w g x) : ∀ r, v.ownBlock = some r → g ≠ r := by
  rintro r hr rfl
  rcases h.2 with ⟨rfl, h0⟩ | ⟨g1, cap, cur, rfl, _, hh, _⟩
  · simp [Value.ownBlock] at hr
  · simp only [Value.ownBlock, Option.some.injEq] at hr
    subst hr
    rw [show w.heap[g1]? = _ from hB] at hh
    simp at hh
theorem row_grown {w w2 : World} {B B' n m : Nat} {v pv : Value} {xs ys : List Value} (h' : w.ownsRow B' 2 1 pv m ys) (h : w.ownsRow B 78 4 v n xs) (hg : w.grownBy w2 v.ownBlock) : w2.ownsRow B' 2 1 pv m ys := by
  refine h'.kept hg ?_
  cases hv : v.ownBlock with
  | none => cases hp : pv.ownBlock with
    | none => exact .inl rfl
    | some g => exact .inr (by simp)
  | some g => exact .inr (own_ne h h' (by decide) g hv)
/-- A call's answer that is a shape of its own. -/
def S1Out (w : World) (M : List Nd) : Ending → World → Prop := fun e w' => ∃ u, e = .returned (.agg #[u]) ∧ OwnSh w' w.heap.size w'.heap.size u M ∧ Below w.heap.size w w'
set_option maxHeartbeats 32000000 in
set_option maxRecDepth 100000 in
theorem l02Keep_any (b : Nat) (v kv : Value) (F : Nat → Bool) (L : List Nd) (w : World) (hcell : w.cell? ⟨b, 0, none⟩ = some v) (h : NodesIn w v L) (hV : valid L = true) (hF : RowF w kv L.length F) :
    Calls Try.prog 77 #[.pointer (some ⟨b, 0, none⟩), kv] w (S1Out w (kp L F L.length).2) := by
  obtain ⟨i0, hi, hz0, hz1, hz2⟩ := info_parts info_f32
  obtain ⟨j0, hj, hy0, hy1, hy2⟩ := info_parts info_nd
  obtain ⟨k0, hk0, hx0, hx1, hx2⟩ := info_parts info_i64
  obtain ⟨av, cv, rfl, _⟩ := id h
  obtain ⟨gk, ck, rfl, hkc⟩ := hF
  have H := Lib.hid h
  have HV := Lib.hid hV
  have HC := Lib.hid hcell
  have HK := Lib.hid hkc
  have hlen := (valid_parts hV).2.1
  have hbb : b < w.heap.size := World.block_lt_of_cell? w _ hcell
  have hb2 : k0.bytes * L.length ≤ 281474976710656 := by rw [hx2]; omega
  have hb3 : L.length ≤ maxLen := by unfold maxLen; omega
  have hE := (Gath.nil (World.ownsRow_made (base := (w.alloc (.cells #[.slice none 0 0] 26)).heap.size) (e := 78) (size := 4) (w.alloc (.cells #[.slice none 0 0] 26)) #[] 0 (Nat.le_refl _) (by decide) (by simp)))
  have hb0 := bl3 w (.cells #[.slice none 0 0] 26) (.cells #[] 78) (.cells #[.slice (some ⟨w.heap.size + 1, 0, none⟩) 0 0] 26)
  have hR := Bl1.keep (Bl1.keep (Bl1.new w (.slice none 0 0)) (bl1 _ (.cells #[] 78))) (bl1 _ (.cells #[.slice (some ⟨w.heap.size + 1, 0, none⟩) 0 0] 26))
  have hO : Bl1 (((w.alloc (.cells #[.slice none 0 0] 26)).alloc (.cells #[] 78)).alloc (.cells #[.slice (some ⟨w.heap.size + 1, 0, none⟩) 0 0] 26)) (w.heap.size + 1 + 1) (.slice (some ⟨w.heap.size + 1, 0, none⟩) 0 0) := new3 _ _ _ _
  have hG0 : Gath (((w.alloc (.cells #[.slice none 0 0] 26)).alloc (.cells #[] 78)).alloc (.cells #[.slice (some ⟨w.heap.size + 1, 0, none⟩) 0 0] 26)) (w.heap.size + 1) (.slice (some ⟨w.heap.size + 1, 0, none⟩) 0 0) [] := by
    have := hE.keep (bl1 _ (.cells #[.slice (some ⟨w.heap.size + 1, 0, none⟩) 0 0] 26))
    simpa using this
  have hbx0 := cellk hcell hb0
  have HE := Lib.hid hG0
  have HR := Lib.hid hR
  have HO := Lib.hid hO
  have hsz0 : w.heap.size ≤ (((w.alloc (.cells #[.slice none 0 0] 26)).alloc (.cells #[] 78)).alloc (.cells #[.slice (some ⟨w.heap.size + 1, 0, none⟩) 0 0] 26)).heap.size := hb0.size
  clear h hV hcell hkc hE hR hO hG0
  go_enter Try.func77, Try.ntmps77
  go_wp2_with (at_make; refine wpList_make_full _ rfl _ _ 52 rfl w.heap.size 2 k0 (.int .i64 0) 1 Try.underlying52 hk0 hx0 hx1 .i64 .i64 _ _ L.length rfl rfl rfl rfl hb2 hb3 hsz0 ?_; intro w1 hown hgrow; rw [rowI_zero] at hown; have hb1 := hbl0_below hgrow)
  have e1 := bl_call hb0 hb1
  have hR1 := HR.out.keep hb1
  have hO1 := HO.out.keep hb1
  have hG1 := HE.out.keep hb1
  clear hgrow hbx0 hsz0 hb0 hb1
  go_loopw [7] (fun i wr => ∃ (k : Nat) (v' : Value), k ≤ L.length ∧ i = .int .i64 k ∧ Bl1 wr (w.heap.size + 1 + 1) v' ∧ Bl1 wr w.heap.size (.slice none 0 0) ∧ wr.ownsRow w.heap.size 2 1 (.slice (some ⟨w.heap.size + 1 + 1 + 1, 0, none⟩) L.length L.length) L.length (rowI L.length (kp L F k).1) ∧ Gath wr (w.heap.size + 1) v' (kp L F k).2 ∧ Below w.heap.size w wr) (fun i _ => L.length - (intOf i).toNat)
  case atStart => exact ⟨0, _, Nat.zero_le _, rfl, hO1, hR1, by simpa [kp] using hown, by simpa [kp] using hG1, e1⟩
  case round =>
    clear hO1 hR1 hown hG1 e1
    obtain ⟨k, v', hk, rfl, hO, hR, hP, hG, hbw⟩ := hrel
    have hbx := cellk HC.out hbw
    by_cases hlt : k < L.length
    · obtain ⟨g, p, rfl, hgl, hNd⟩ := (H.out.keep hbw).at_ hlt
      obtain ⟨d, hd⟩ : ∃ d, at_ L k = d := ⟨_, rfl⟩
      have hNd2 : NdAt wr g (p + k * 4) d := by rw [← hd]; exact hNd
      have hok : okNd k d = true := by rw [← hd]; exact valid_ok HV.out hlt
      have hkd := okNd_kind hok
      have hdx : d.xs.length ≤ 1048576 := by have := nums_few hok; omega
      have hml := kp_len L F k
      have hpl := kp_place L F k
      have Hd := Lib.hid hd
      cases hFk : F k
      · have hkr : wr.cell? ⟨gk, k, none⟩ = some (.bool false) := by rw [← hFk]; exact cellk (HK.out k hlt) hbw
        have HT := Lib.hid (kp_no (L := L) hFk)
        have HO := Lib.hid hO
        have HR := Lib.hid hR
        have HP := Lib.hid hP
        have HG := Lib.hid hG
        clear hFk hNd hNd2 hd hml hpl hok hkd hO hR hP hG
        go_wp2_with fail
        go_roundw
        case rel => exact ⟨k + 1, _, by omega, by go_num, HO.out, HR.out, by rw [HT.out]; exact HP.out, by rw [HT.out]; exact HG.out, hbw⟩
        case measure => simp [intOf]; omega
      · have hkr : wr.cell? ⟨gk, k, none⟩ = some (.bool true) := by rw [← hFk]; exact cellk (HK.out k hlt) hbw
        have HKY := Lib.hid (fun (e : Nd) he => kp_yes (L := L) (d := d) (e := e) hFk Hd.out he)
        obtain ⟨G, hGe⟩ : ∃ G, (kp L F k).1 = G := ⟨_, rfl⟩
        obtain ⟨M, hMe⟩ : ∃ M, (kp L F k).2 = M := ⟨_, rfl⟩
        rw [hGe] at hP hpl HKY
        rw [hMe] at hG hml HKY
        obtain ⟨va, vc, hv⟩ := hG.form
        subst hv
        obtain ⟨c0, c1, c2, nv, c3, hF⟩ := hNd2
        obtain ⟨nva, nvc, rfl, _⟩ := id hF
        have HG := Lib.hid hG
        have HO := Lib.hid hO
        have HR := Lib.hid hR
        have HP := Lib.hid hP
        have HPL := Lib.hid hpl
        have hsz : w.heap.size + 1 + 1 + 1 < wr.heap.size := (hP.lt _ rfl).2
        have hsz' := hbw.size
        clear hFk hNd hd hG hO hR hP hGe hMe hpl
        cases hlf : leafK d.k
        · cases htw : twoK d.k
          · have hK := kids1 hkd hlf htw
            obtain ⟨A, hA, hAk⟩ := a_in hok (by rw [hK]; omega)
            obtain ⟨x, hx⟩ : ∃ x, G A = x := ⟨_, rfl⟩
            have hxk : x ≤ k := by rw [← hx]; exact HPL.out A
            have HT := Lib.hid (HKY.out _ (keptN1 hK hA hx))
            have HX := Lib.hid hx
            rw [hA] at c1
            have HF := Lib.hid (hF.keep (bl2 wr (.cells #[.int .i64 d.k, .int .i64 ((A : Nat)), .int .i64 (d.b), .slice nva d.xs.length nvc] 78) (.cells #[] 61)))
            have hown := World.ownsRow_made (base := (wr.alloc (.cells #[.int .i64 d.k, .int .i64 ((A : Nat)), .int .i64 (d.b), .slice nva d.xs.length nvc] 78)).heap.size) (e := 61) (size := 1) (wr.alloc (.cells #[.int .i64 d.k, .int .i64 ((A : Nat)), .int .i64 (d.b), .slice nva d.xs.length nvc] 78)) #[] 0 (Nat.le_refl _) (by decide) (by simp)
            have hB2 : Bl4 ((wr.alloc (.cells #[.int .i64 d.k, .int .i64 ((A : Nat)), .int .i64 (d.b), .slice nva d.xs.length nvc] 78)).alloc (.cells #[] 61)) wr.heap.size (.int .i64 d.k) (.int .i64 ((A : Nat))) (.int .i64 (d.b)) (.slice nva d.xs.length nvc) := (Below.heap_alloc _ _ _ (by simp)).trans (heap_alloc_new wr _)
            have hbl2 := bl2 wr (.cells #[.int .i64 d.k, .int .i64 ((A : Nat)), .int .i64 (d.b), .slice nva d.xs.length nvc] 78) (.cells #[] 61)
            obtain ⟨o0, o1, o2, o3⟩ := hB2.cells
            have HON := Lib.hid hown
            have HB2 := Lib.hid hB2
            have Hl := Lib.hid (fun W => l02Leaf_at hlf W)
            have Ht := Lib.hid (fun W => l02Two_at htw W)
            clear hok hkd hlf htw hK hF hown hB2 hA hx
            go_wp2_with (first | (at_builtin; refine wpList_append_fin (w0 := (wr.alloc (.cells #[.int .i64 d.k, .int .i64 ((A : Nat)), .int .i64 (d.b), .slice nva d.xs.length nvc] 78))) rfl (.tmp 38) (.tmp 40) rfl i0 hi hz0 hz1 hz2 (.slice (some ⟨wr.heap.size + 1, 0, none⟩) 0 0) rfl (by simpa using HON.out) (.slice nva d.xs.length nvc) rfl d.xs HF.out hdx (by simp) ?_; intro nv2 w3 hN hb3 hg3; obtain ⟨na, nc, hnv, _⟩ := id hN; subst hnv; have hB3 : Bl4 w3 wr.heap.size (.int .i64 d.k) (.int .i64 ((A : Nat))) (.int .i64 (d.b)) (.slice nva d.xs.length nvc) := (hg3.block wr.heap.size (by simp; omega) (by simp [Value.ownBlock])).trans HB2.out; obtain ⟨r0, r1, r2, r3⟩ := hB3.cells; have f0 := hB3.frozen 0; have f1 := hB3.frozen 1; have f2 := hB3.frozen 2; have f3 := hB3.frozen 3; have hbw3 : Below wr.heap.size wr w3 := hbl2.trans (hb3.mono (by simp)); have hz3 := hb3.size; have pA : (w3.setCell ⟨wr.heap.size, 3, none⟩ (.slice na d.xs.length nc)).cell? ⟨w.heap.size + 1 + 1 + 1, A, none⟩ = some (.int .i64 ((x : Nat) : Int)) := readI (own_keep HP.out (bl_set hbw3 (Nat.le_refl _) _)) (by omega) HX.out; have hbW6 : Below wr.heap.size wr ((w3.setCell ⟨wr.heap.size, 3, none⟩ (.slice na d.xs.length nc)).setCell ⟨wr.heap.size, 1, none⟩ (.int .i64 ((x : Nat)))) := (bl_set (bl_set hbw3 (Nat.le_refl _) _) (Nat.le_refl _) _); have o6 := (HO.out.keep hbW6).cell; obtain ⟨pc, pf, _⟩ := bumpI (own_keep HP.out hbW6) hlt M.length; have hb7 : Below (wr.setCell ⟨w.heap.size + 1 + 1 + 1, k, none⟩ (.int .i64 ((M.length : Nat) : Int))).heap.size (wr.setCell ⟨w.heap.size + 1 + 1 + 1, k, none⟩ (.int .i64 ((M.length : Nat) : Int))) (((w3.setCell ⟨wr.heap.size, 3, none⟩ (.slice na d.xs.length nc)).setCell ⟨wr.heap.size, 1, none⟩ (.int .i64 ((x : Nat)))).setCell ⟨w.heap.size + 1 + 1 + 1, k, none⟩ (.int .i64 ((M.length : Nat) : Int))) := below_set2 hbW6 _ _ _; have hO7 := (HO.out.far (p := ⟨w.heap.size + 1 + 1 + 1, k, none⟩) (by show _ ≠ w.heap.size + 1 + 1 + 1; omega) (.int .i64 ((M.length : Nat) : Int))).keep hb7; have o7 := hO7.cell; have hB7 : Bl4 (((w3.setCell ⟨wr.heap.size, 3, none⟩ (.slice na d.xs.length nc)).setCell ⟨wr.heap.size, 1, none⟩ (.int .i64 ((x : Nat)))).setCell ⟨w.heap.size + 1 + 1 + 1, k, none⟩ (.int .i64 ((M.length : Nat) : Int))) wr.heap.size (.int .i64 d.k) (.int .i64 ((x : Nat))) (.int .i64 (d.b)) (.slice na d.xs.length nc) := Bl4.far (Bl4.set1 (Bl4.set3 hB3 (.slice na d.xs.length nc)) (.int .i64 ((x : Nat)))) (p := ⟨w.heap.size + 1 + 1 + 1, k, none⟩) (by show _ ≠ w.heap.size + 1 + 1 + 1; omega) _; obtain ⟨q0, q1, q2, q3⟩ := hB7.cells) | (go_at_call 66; refine (Calls.mono (by exact Hl.out _) ?_); rintro e w' ⟨rfl, he⟩; subst w') | (go_at_call 67; refine (Calls.mono (by exact Ht.out _) ?_); rintro e w' ⟨rfl, he⟩; subst w') | (at_builtin; have hb8 : Below (wr.setCell ⟨w.heap.size + 1 + 1 + 1, k, none⟩ (.int .i64 ((M.length : Nat) : Int))).heap.size (wr.setCell ⟨w.heap.size + 1 + 1 + 1, k, none⟩ (.int .i64 ((M.length : Nat) : Int))) ((((w3.setCell ⟨wr.heap.size, 3, none⟩ (.slice na d.xs.length nc)).setCell ⟨wr.heap.size, 1, none⟩ (.int .i64 ((x : Nat)))).setCell ⟨w.heap.size + 1 + 1 + 1, k, none⟩ (.int .i64 ((M.length : Nat) : Int))).alloc (.cells #[.int .i64 d.k, .int .i64 ((x : Nat)), .int .i64 (d.b), .slice na d.xs.length nc] 78)) := bl_alloc hb7 _; have hN7 : NewNum (wr.setCell ⟨w.heap.size + 1 + 1 + 1, k, none⟩ (.int .i64 ((M.length : Nat) : Int))) ((((w3.setCell ⟨wr.heap.size, 3, none⟩ (.slice na d.xs.length nc)).setCell ⟨wr.heap.size, 1, none⟩ (.int .i64 ((x : Nat)))).setCell ⟨w.heap.size + 1 + 1 + 1, k, none⟩ (.int .i64 ((M.length : Nat) : Int))).alloc (.cells #[.int .i64 d.k, .int .i64 ((x : Nat)), .int .i64 (d.b), .slice na d.xs.length nc] 78)) (.slice na d.xs.length nc) d.xs := (NewNum.keep (((hN.low (by simp) _).low (by simp) _).low (by simp; omega) _) (bl1 _ _)).base (by simp [World.setCell]); have hG7 := HG.out.setR HP.out k (.int .i64 ((M.length : Nat) : Int)); obtain ⟨xs5, hrow, hpush⟩ := hG7.push hb8 (d := ⟨d.k, (x : Nat), d.b, d.xs⟩) hN7 (by simp [World.setCell]; omega); refine wpList_append_lies _ rfl (.tmp 69) (.tmp 71) 24 rfl (w.heap.size + 1) 78 j0 _ 4 48 Try.underlying24 hj hy0 hy1 hy2 rfl (by decide) (.slice va M.length vc) M.length xs5 rfl hrow ⟨w3.heap.size, 0, none⟩ 1 1 [.int .i64 d.k, .int .i64 ((x : Nat)), .int .i64 (d.b), .slice na d.xs.length nc] rfl rfl (news4 (by simpa [World.setCell] using heap_alloc_new (((w3.setCell ⟨wr.heap.size, 3, none⟩ (.slice na d.xs.length nc)).setCell ⟨wr.heap.size, 1, none⟩ (.int .i64 ((x : Nat)))).setCell ⟨w.heap.size + 1 + 1 + 1, k, none⟩ (.int .i64 ((M.length : Nat) : Int))) (.cells #[.int .i64 d.k, .int .i64 ((x : Nat)), .int .i64 (d.b), .slice na d.xs.length nc] 78))) (by simp [Value.oneCell']) (by decide) (by unfold maxLen; omega) (by omega) (by simp [World.setCell]; simp at hz3; omega) _ rfl ?_; intro g5 c5 w5 hown5 hgrow5 _ _; have hO5 := (hO7.keep (bl1 _ (.cells #[.int .i64 d.k, .int .i64 ((x : Nat)), .int .i64 (d.b), .slice na d.xs.length nc] 78))).grown hgrow5 (row_apart1 hrow (hO7.keep (bl1 _ (.cells #[.int .i64 d.k, .int .i64 ((x : Nat)), .int .i64 (d.b), .slice na d.xs.length nc] 78)))); have o5 := hO5.cell; have f5 := hO5.frozen))
            have hG5 := hpush _ _ hown5 hgrow5
            have hR7 := (HR.out.far (p := ⟨w.heap.size + 1 + 1 + 1, k, none⟩) (by show _ ≠ w.heap.size + 1 + 1 + 1; omega) (.int .i64 ((M.length : Nat) : Int))).keep hb8
            have hR5 := hR7.grown hgrow5 (row_apart1 hrow hR7)
            have hP5 := row_grown (own_keep (bumpI HP.out hlt M.length).2.2 hb8) hrow hgrow5
            have hb5 : Below w.heap.size w w5 := ((bl_set hbw (a := ⟨w.heap.size + 1 + 1 + 1, k, none⟩) (by show _ ≤ w.heap.size + 1 + 1 + 1; omega) _).trans (hb8.mono (by simp [World.setCell]; omega))).grown hgrow5 (by simp [World.setCell]; simp at hz3; omega) (fun r hr => by have := (HG.out.block r hr).1; omega)
            go_roundw
            case rel => exact ⟨k + 1, _, by omega, by go_num, hO5.set _, hR5.far (p := ⟨w.heap.size + 1 + 1, 0, none⟩) (by show _ ≠ w.heap.size + 1 + 1; omega) _, by rw [HT.out.1]; exact row_set1 hP5 hO5 (by decide) _, by rw [HT.out.2]; exact hG5.set1 hO5 _, bl_set hb5 (by show _ ≤ w.heap.size + 1 + 1; omega) _⟩
            case measure => simp [intOf]; omega
          · have hK := kids2 htw
            obtain ⟨A, hA, hAk⟩ := a_in hok (by rw [hK]; omega)
            obtain ⟨B, hB, hBk⟩ := b_in hok hK
            obtain ⟨x, hx⟩ : ∃ x, G A = x := ⟨_, rfl⟩
            have hxk : x ≤ k := by rw [← hx]; exact HPL.out A
            obtain ⟨y, hy⟩ : ∃ y, G B = y := ⟨_, rfl⟩
            have hyk : y ≤ k := by rw [← hy]; exact HPL.out B
            have HT := Lib.hid (HKY.out _ (keptN2 hK hA hB hx hy))
            have HX := Lib.hid hx
            have HY := Lib.hid hy
            rw [hA] at c1
            rw [hB] at c2
            have HF := Lib.hid (hF.keep (bl2 wr (.cells #[.int .i64 d.k, .int .i64 ((A : Nat)), .int .i64 ((B : Nat)), .slice nva d.xs.length nvc] 78) (.cells #[] 61)))
            have hown := World.ownsRow_made (base := (wr.alloc (.cells #[.int .i64 d.k, .int .i64 ((A : Nat)), .int .i64 ((B : Nat)), .slice nva d.xs.length nvc] 78)).heap.size) (e := 61) (size := 1) (wr.alloc (.cells #[.int .i64 d.k, .int .i64 ((A : Nat)), .int .i64 ((B : Nat)), .slice nva d.xs.length nvc] 78)) #[] 0 (Nat.le_refl _) (by decide) (by simp)
            have hB2 : Bl4 ((wr.alloc (.cells #[.int .i64 d.k, .int .i64 ((A : Nat)), .int .i64 ((B : Nat)), .slice nva d.xs.length nvc] 78)).alloc (.cells #[] 61)) wr.heap.size (.int .i64 d.k) (.int .i64 ((A : Nat))) (.int .i64 ((B : Nat))) (.slice nva d.xs.length nvc) := (Below.heap_alloc _ _ _ (by simp)).trans (heap_alloc_new wr _)
            have hbl2 := bl2 wr (.cells #[.int .i64 d.k, .int .i64 ((A : Nat)), .int .i64 ((B : Nat)), .slice nva d.xs.length nvc] 78) (.cells #[] 61)
            obtain ⟨o0, o1, o2, o3⟩ := hB2.cells
            have HON := Lib.hid hown
            have HB2 := Lib.hid hB2
            have Hl := Lib.hid (fun W => l02Leaf_at hlf W)
            have Ht := Lib.hid (fun W => l02Two_at htw W)
            clear hok hkd hlf htw hK hF hown hB2 hA hB hx hy
            go_wp2_with (first | (at_builtin; refine wpList_append_fin (w0 := (wr.alloc (.cells #[.int .i64 d.k, .int .i64 ((A : Nat)), .int .i64 ((B : Nat)), .slice nva d.xs.length nvc] 78))) rfl (.tmp 38) (.tmp 40) rfl i0 hi hz0 hz1 hz2 (.slice (some ⟨wr.heap.size + 1, 0, none⟩) 0 0) rfl (by simpa using HON.out) (.slice nva d.xs.length nvc) rfl d.xs HF.out hdx (by simp) ?_; intro nv2 w3 hN hb3 hg3; obtain ⟨na, nc, hnv, _⟩ := id hN; subst hnv; have hB3 : Bl4 w3 wr.heap.size (.int .i64 d.k) (.int .i64 ((A : Nat))) (.int .i64 ((B : Nat))) (.slice nva d.xs.length nvc) := (hg3.block wr.heap.size (by simp; omega) (by simp [Value.ownBlock])).trans HB2.out; obtain ⟨r0, r1, r2, r3⟩ := hB3.cells; have f0 := hB3.frozen 0; have f1 := hB3.frozen 1; have f2 := hB3.frozen 2; have f3 := hB3.frozen 3; have hbw3 : Below wr.heap.size wr w3 := hbl2.trans (hb3.mono (by simp)); have hz3 := hb3.size; have pA : (w3.setCell ⟨wr.heap.size, 3, none⟩ (.slice na d.xs.length nc)).cell? ⟨w.heap.size + 1 + 1 + 1, A, none⟩ = some (.int .i64 ((x : Nat) : Int)) := readI (own_keep HP.out (bl_set hbw3 (Nat.le_refl _) _)) (by omega) HX.out; have pB : ((w3.setCell ⟨wr.heap.size, 3, none⟩ (.slice na d.xs.length nc)).setCell ⟨wr.heap.size, 1, none⟩ (.int .i64 ((x : Nat)))).cell? ⟨w.heap.size + 1 + 1 + 1, B, none⟩ = some (.int .i64 ((y : Nat) : Int)) := readI (own_keep HP.out (bl_set (bl_set hbw3 (Nat.le_refl _) _) (Nat.le_refl _) _)) (by omega) HY.out; have hbW6 : Below wr.heap.size wr (((w3.setCell ⟨wr.heap.size, 3, none⟩ (.slice na d.xs.length nc)).setCell ⟨wr.heap.size, 1, none⟩ (.int .i64 ((x : Nat)))).setCell ⟨wr.heap.size, 2, none⟩ (.int .i64 ((y : Nat)))) := (bl_set (bl_set (bl_set hbw3 (Nat.le_refl _) _) (Nat.le_refl _) _) (Nat.le_refl _) _); have o6 := (HO.out.keep hbW6).cell; obtain ⟨pc, pf, _⟩ := bumpI (own_keep HP.out hbW6) hlt M.length; have hb7 : Below (wr.setCell ⟨w.heap.size + 1 + 1 + 1, k, none⟩ (.int .i64 ((M.length : Nat) : Int))).heap.size (wr.setCell ⟨w.heap.size + 1 + 1 + 1, k, none⟩ (.int .i64 ((M.length : Nat) : Int))) ((((w3.setCell ⟨wr.heap.size, 3, none⟩ (.slice na d.xs.length nc)).setCell ⟨wr.heap.size, 1, none⟩ (.int .i64 ((x : Nat)))).setCell ⟨wr.heap.size, 2, none⟩ (.int .i64 ((y : Nat)))).setCell ⟨w.heap.size + 1 + 1 + 1, k, none⟩ (.int .i64 ((M.length : Nat) : Int))) := below_set2 hbW6 _ _ _; have hO7 := (HO.out.far (p := ⟨w.heap.size + 1 + 1 + 1, k, none⟩) (by show _ ≠ w.heap.size + 1 + 1 + 1; omega) (.int .i64 ((M.length : Nat) : Int))).keep hb7; have o7 := hO7.cell; have hB7 : Bl4 ((((w3.setCell ⟨wr.heap.size, 3, none⟩ (.slice na d.xs.length nc)).setCell ⟨wr.heap.size, 1, none⟩ (.int .i64 ((x : Nat)))).setCell ⟨wr.heap.size, 2, none⟩ (.int .i64 ((y : Nat)))).setCell ⟨w.heap.size + 1 + 1 + 1, k, none⟩ (.int .i64 ((M.length : Nat) : Int))) wr.heap.size (.int .i64 d.k) (.int .i64 ((x : Nat))) (.int .i64 ((y : Nat))) (.slice na d.xs.length nc) := Bl4.far (Bl4.set2 (Bl4.set1 (Bl4.set3 hB3 (.slice na d.xs.length nc)) (.int .i64 ((x : Nat)))) (.int .i64 ((y : Nat)))) (p := ⟨w.heap.size + 1 + 1 + 1, k, none⟩) (by show _ ≠ w.heap.size + 1 + 1 + 1; omega) _; obtain ⟨q0, q1, q2, q3⟩ := hB7.cells) | (go_at_call 66; refine (Calls.mono (by exact Hl.out _) ?_); rintro e w' ⟨rfl, he⟩; subst w') | (go_at_call 67; refine (Calls.mono (by exact Ht.out _) ?_); rintro e w' ⟨rfl, he⟩; subst w') | (at_builtin; have hb8 : Below (wr.setCell ⟨w.heap.size + 1 + 1 + 1, k, none⟩ (.int .i64 ((M.length : Nat) : Int))).heap.size (wr.setCell ⟨w.heap.size + 1 + 1 + 1, k, none⟩ (.int .i64 ((M.length : Nat) : Int))) (((((w3.setCell ⟨wr.heap.size, 3, none⟩ (.slice na d.xs.length nc)).setCell ⟨wr.heap.size, 1, none⟩ (.int .i64 ((x : Nat)))).setCell ⟨wr.heap.size, 2, none⟩ (.int .i64 ((y : Nat)))).setCell ⟨w.heap.size + 1 + 1 + 1, k, none⟩ (.int .i64 ((M.length : Nat) : Int))).alloc (.cells #[.int .i64 d.k, .int .i64 ((x : Nat)), .int .i64 ((y : Nat)), .slice na d.xs.length nc] 78)) := bl_alloc hb7 _; have hN7 : NewNum (wr.setCell ⟨w.heap.size + 1 + 1 + 1, k, none⟩ (.int .i64 ((M.length : Nat) : Int))) (((((w3.setCell ⟨wr.heap.size, 3, none⟩ (.slice na d.xs.length nc)).setCell ⟨wr.heap.size, 1, none⟩ (.int .i64 ((x : Nat)))).setCell ⟨wr.heap.size, 2, none⟩ (.int .i64 ((y : Nat)))).setCell ⟨w.heap.size + 1 + 1 + 1, k, none⟩ (.int .i64 ((M.length : Nat) : Int))).alloc (.cells #[.int .i64 d.k, .int .i64 ((x : Nat)), .int .i64 ((y : Nat)), .slice na d.xs.length nc] 78)) (.slice na d.xs.length nc) d.xs := (NewNum.keep ((((hN.low (by simp) _).low (by simp) _).low (by simp) _).low (by simp; omega) _) (bl1 _ _)).base (by simp [World.setCell]); have hG7 := HG.out.setR HP.out k (.int .i64 ((M.length : Nat) : Int)); obtain ⟨xs5, hrow, hpush⟩ := hG7.push hb8 (d := ⟨d.k, (x : Nat), (y : Nat), d.xs⟩) hN7 (by simp [World.setCell]; omega); refine wpList_append_lies _ rfl (.tmp 69) (.tmp 71) 24 rfl (w.heap.size + 1) 78 j0 _ 4 48 Try.underlying24 hj hy0 hy1 hy2 rfl (by decide) (.slice va M.length vc) M.length xs5 rfl hrow ⟨w3.heap.size, 0, none⟩ 1 1 [.int .i64 d.k, .int .i64 ((x : Nat)), .int .i64 ((y : Nat)), .slice na d.xs.length nc] rfl rfl (news4 (by simpa [World.setCell] using heap_alloc_new ((((w3.setCell ⟨wr.heap.size, 3, none⟩ (.slice na d.xs.length nc)).setCell ⟨wr.heap.size, 1, none⟩ (.int .i64 ((x : Nat)))).setCell ⟨wr.heap.size, 2, none⟩ (.int .i64 ((y : Nat)))).setCell ⟨w.heap.size + 1 + 1 + 1, k, none⟩ (.int .i64 ((M.length : Nat) : Int))) (.cells #[.int .i64 d.k, .int .i64 ((x : Nat)), .int .i64 ((y : Nat)), .slice na d.xs.length nc] 78))) (by simp [Value.oneCell']) (by decide) (by unfold maxLen; omega) (by omega) (by simp [World.setCell]; simp at hz3; omega) _ rfl ?_; intro g5 c5 w5 hown5 hgrow5 _ _; have hO5 := (hO7.keep (bl1 _ (.cells #[.int .i64 d.k, .int .i64 ((x : Nat)), .int .i64 ((y : Nat)), .slice na d.xs.length nc] 78))).grown hgrow5 (row_apart1 hrow (hO7.keep (bl1 _ (.cells #[.int .i64 d.k, .int .i64 ((x : Nat)), .int .i64 ((y : Nat)), .slice na d.xs.length nc] 78)))); have o5 := hO5.cell; have f5 := hO5.frozen))
            have hG5 := hpush _ _ hown5 hgrow5
            have hR7 := (HR.out.far (p := ⟨w.heap.size + 1 + 1 + 1, k, none⟩) (by show _ ≠ w.heap.size + 1 + 1 + 1; omega) (.int .i64 ((M.length : Nat) : Int))).keep hb8
            have hR5 := hR7.grown hgrow5 (row_apart1 hrow hR7)
            have hP5 := row_grown (own_keep (bumpI HP.out hlt M.length).2.2 hb8) hrow hgrow5
            have hb5 : Below w.heap.size w w5 := ((bl_set hbw (a := ⟨w.heap.size + 1 + 1 + 1, k, none⟩) (by show _ ≤ w.heap.size + 1 + 1 + 1; omega) _).trans (hb8.mono (by simp [World.setCell]; omega))).grown hgrow5 (by simp [World.setCell]; simp at hz3; omega) (fun r hr => by have := (HG.out.block r hr).1; omega)
            go_roundw
            case rel => exact ⟨k + 1, _, by omega, by go_num, hO5.set _, hR5.far (p := ⟨w.heap.size + 1 + 1, 0, none⟩) (by show _ ≠ w.heap.size + 1 + 1; omega) _, by rw [HT.out.1]; exact row_set1 hP5 hO5 (by decide) _, by rw [HT.out.2]; exact hG5.set1 hO5 _, bl_set hb5 (by show _ ≤ w.heap.size + 1 + 1; omega) _⟩
            case measure => simp [intOf]; omega
        · have hK := kids0 hkd hlf
          have htw : twoK d.k = false := by rw [two_kids, hK]; rfl
          have HT := Lib.hid (HKY.out _ (keptN0 hK))
          have HF := Lib.hid (hF.keep (bl2 wr (.cells #[.int .i64 d.k, .int .i64 (d.a), .int .i64 (d.b), .slice nva d.xs.length nvc] 78) (.cells #[] 61)))
          have hown := World.ownsRow_made (base := (wr.alloc (.cells #[.int .i64 d.k, .int .i64 (d.a), .int .i64 (d.b), .slice nva d.xs.length nvc] 78)).heap.size) (e := 61) (size := 1) (wr.alloc (.cells #[.int .i64 d.k, .int .i64 (d.a), .int .i64 (d.b), .slice nva d.xs.length nvc] 78)) #[] 0 (Nat.le_refl _) (by decide) (by simp)
          have hB2 : Bl4 ((wr.alloc (.cells #[.int .i64 d.k, .int .i64 (d.a), .int .i64 (d.b), .slice nva d.xs.length nvc] 78)).alloc (.cells #[] 61)) wr.heap.size (.int .i64 d.k) (.int .i64 (d.a)) (.int .i64 (d.b)) (.slice nva d.xs.length nvc) := (Below.heap_alloc _ _ _ (by simp)).trans (heap_alloc_new wr _)
          have hbl2 := bl2 wr (.cells #[.int .i64 d.k, .int .i64 (d.a), .int .i64 (d.b), .slice nva d.xs.length nvc] 78) (.cells #[] 61)
          obtain ⟨o0, o1, o2, o3⟩ := hB2.cells
          have HON := Lib.hid hown
          have HB2 := Lib.hid hB2
          have Hl := Lib.hid (fun W => l02Leaf_at hlf W)
          have Ht := Lib.hid (fun W => l02Two_at htw W)
          clear hok hkd hlf htw hK hF hown hB2 
          go_wp2_with (first | (at_builtin; refine wpList_append_fin (w0 := (wr.alloc (.cells #[.int .i64 d.k, .int .i64 (d.a), .int .i64 (d.b), .slice nva d.xs.length nvc] 78))) rfl (.tmp 38) (.tmp 40) rfl i0 hi hz0 hz1 hz2 (.slice (some ⟨wr.heap.size + 1, 0, none⟩) 0 0) rfl (by simpa using HON.out) (.slice nva d.xs.length nvc) rfl d.xs HF.out hdx (by simp) ?_; intro nv2 w3 hN hb3 hg3; obtain ⟨na, nc, hnv, _⟩ := id hN; subst hnv; have hB3 : Bl4 w3 wr.heap.size (.int .i64 d.k) (.int .i64 (d.a)) (.int .i64 (d.b)) (.slice nva d.xs.length nvc) := (hg3.block wr.heap.size (by simp; omega) (by simp [Value.ownBlock])).trans HB2.out; obtain ⟨r0, r1, r2, r3⟩ := hB3.cells; have f0 := hB3.frozen 0; have f1 := hB3.frozen 1; have f2 := hB3.frozen 2; have f3 := hB3.frozen 3; have hbw3 : Below wr.heap.size wr w3 := hbl2.trans (hb3.mono (by simp)); have hz3 := hb3.size; have hbW6 : Below wr.heap.size wr (w3.setCell ⟨wr.heap.size, 3, none⟩ (.slice na d.xs.length nc)) := (bl_set hbw3 (Nat.le_refl _) _); have o6 := (HO.out.keep hbW6).cell; obtain ⟨pc, pf, _⟩ := bumpI (own_keep HP.out hbW6) hlt M.length; have hb7 : Below (wr.setCell ⟨w.heap.size + 1 + 1 + 1, k, none⟩ (.int .i64 ((M.length : Nat) : Int))).heap.size (wr.setCell ⟨w.heap.size + 1 + 1 + 1, k, none⟩ (.int .i64 ((M.length : Nat) : Int))) ((w3.setCell ⟨wr.heap.size, 3, none⟩ (.slice na d.xs.length nc)).setCell ⟨w.heap.size + 1 + 1 + 1, k, none⟩ (.int .i64 ((M.length : Nat) : Int))) := below_set2 hbW6 _ _ _; have hO7 := (HO.out.far (p := ⟨w.heap.size + 1 + 1 + 1, k, none⟩) (by show _ ≠ w.heap.size + 1 + 1 + 1; omega) (.int .i64 ((M.length : Nat) : Int))).keep hb7; have o7 := hO7.cell; have hB7 : Bl4 ((w3.setCell ⟨wr.heap.size, 3, none⟩ (.slice na d.xs.length nc)).setCell ⟨w.heap.size + 1 + 1 + 1, k, none⟩ (.int .i64 ((M.length : Nat) : Int))) wr.heap.size (.int .i64 d.k) (.int .i64 (d.a)) (.int .i64 (d.b)) (.slice na d.xs.length nc) := Bl4.far (Bl4.set3 hB3 (.slice na d.xs.length nc)) (p := ⟨w.heap.size + 1 + 1 + 1, k, none⟩) (by show _ ≠ w.heap.size + 1 + 1 + 1; omega) _; obtain ⟨q0, q1, q2, q3⟩ := hB7.cells) | (go_at_call 66; refine (Calls.mono (by exact Hl.out _) ?_); rintro e w' ⟨rfl, he⟩; subst w') | (go_at_call 67; refine (Calls.mono (by exact Ht.out _) ?_); rintro e w' ⟨rfl, he⟩; subst w') | (at_builtin; have hb8 : Below (wr.setCell ⟨w.heap.size + 1 + 1 + 1, k, none⟩ (.int .i64 ((M.length : Nat) : Int))).heap.size (wr.setCell ⟨w.heap.size + 1 + 1 + 1, k, none⟩ (.int .i64 ((M.length : Nat) : Int))) (((w3.setCell ⟨wr.heap.size, 3, none⟩ (.slice na d.xs.length nc)).setCell ⟨w.heap.size + 1 + 1 + 1, k, none⟩ (.int .i64 ((M.length : Nat) : Int))).alloc (.cells #[.int .i64 d.k, .int .i64 (d.a), .int .i64 (d.b), .slice na d.xs.length nc] 78)) := bl_alloc hb7 _; have hN7 : NewNum (wr.setCell ⟨w.heap.size + 1 + 1 + 1, k, none⟩ (.int .i64 ((M.length : Nat) : Int))) (((w3.setCell ⟨wr.heap.size, 3, none⟩ (.slice na d.xs.length nc)).setCell ⟨w.heap.size + 1 + 1 + 1, k, none⟩ (.int .i64 ((M.length : Nat) : Int))).alloc (.cells #[.int .i64 d.k, .int .i64 (d.a), .int .i64 (d.b), .slice na d.xs.length nc] 78)) (.slice na d.xs.length nc) d.xs := (NewNum.keep ((hN.low (by simp) _).low (by simp; omega) _) (bl1 _ _)).base (by simp [World.setCell]); have hG7 := HG.out.setR HP.out k (.int .i64 ((M.length : Nat) : Int)); obtain ⟨xs5, hrow, hpush⟩ := hG7.push hb8 (d := ⟨d.k, d.a, d.b, d.xs⟩) hN7 (by simp [World.setCell]; omega); refine wpList_append_lies _ rfl (.tmp 69) (.tmp 71) 24 rfl (w.heap.size + 1) 78 j0 _ 4 48 Try.underlying24 hj hy0 hy1 hy2 rfl (by decide) (.slice va M.length vc) M.length xs5 rfl hrow ⟨w3.heap.size, 0, none⟩ 1 1 [.int .i64 d.k, .int .i64 (d.a), .int .i64 (d.b), .slice na d.xs.length nc] rfl rfl (news4 (by simpa [World.setCell] using heap_alloc_new ((w3.setCell ⟨wr.heap.size, 3, none⟩ (.slice na d.xs.length nc)).setCell ⟨w.heap.size + 1 + 1 + 1, k, none⟩ (.int .i64 ((M.length : Nat) : Int))) (.cells #[.int .i64 d.k, .int .i64 (d.a), .int .i64 (d.b), .slice na d.xs.length nc] 78))) (by simp [Value.oneCell']) (by decide) (by unfold maxLen; omega) (by omega) (by simp [World.setCell]; simp at hz3; omega) _ rfl ?_; intro g5 c5 w5 hown5 hgrow5 _ _; have hO5 := (hO7.keep (bl1 _ (.cells #[.int .i64 d.k, .int .i64 (d.a), .int .i64 (d.b), .slice na d.xs.length nc] 78))).grown hgrow5 (row_apart1 hrow (hO7.keep (bl1 _ (.cells #[.int .i64 d.k, .int .i64 (d.a), .int .i64 (d.b), .slice na d.xs.length nc] 78)))); have o5 := hO5.cell; have f5 := hO5.frozen))
          have hG5 := hpush _ _ hown5 hgrow5
          have hR7 := (HR.out.far (p := ⟨w.heap.size + 1 + 1 + 1, k, none⟩) (by show _ ≠ w.heap.size + 1 + 1 + 1; omega) (.int .i64 ((M.length : Nat) : Int))).keep hb8
          have hR5 := hR7.grown hgrow5 (row_apart1 hrow hR7)
          have hP5 := row_grown (own_keep (bumpI HP.out hlt M.length).2.2 hb8) hrow hgrow5
          have hb5 : Below w.heap.size w w5 := ((bl_set hbw (a := ⟨w.heap.size + 1 + 1 + 1, k, none⟩) (by show _ ≤ w.heap.size + 1 + 1 + 1; omega) _).trans (hb8.mono (by simp [World.setCell]; omega))).grown hgrow5 (by simp [World.setCell]; simp at hz3; omega) (fun r hr => by have := (HG.out.block r hr).1; omega)
          go_roundw
          case rel => exact ⟨k + 1, _, by omega, by go_num, hO5.set _, hR5.far (p := ⟨w.heap.size + 1 + 1, 0, none⟩) (by show _ ≠ w.heap.size + 1 + 1; omega) _, by rw [HT.out.1]; exact row_set1 hP5 hO5 (by decide) _, by rw [HT.out.2]; exact hG5.set1 hO5 _, bl_set hb5 (by show _ ≤ w.heap.size + 1 + 1; omega) _⟩
          case measure => simp [intOf]; omega
    · obtain rfl : k = L.length := by omega
      obtain ⟨va, vc, rfl⟩ := hG.form
      have o0 := hO.cell
      have r0 := hR.cell
      have fr := hR.frozen
      have HG := Lib.hid hG
      clear hG hlt
      go_wp2_with fail
      refine bodyPost_ret (results_cell_row rfl _ _ w.heap.size 26 _ (0, 0) _ rfl (Bl1.set hR _) Try.underlying26 rfl (by kernel_rfl)) rfl ?_
      have hq := HG.out.low (p := ⟨w.heap.size, 0, none⟩) (by simp) (.slice va (kp L F L.length).2.length vc)
      exact ⟨_, rfl, OwnSh.mono hq.own (by omega) (Nat.le_refl _) (Nat.le_refl _), bl_set hbw (Nat.le_refl _) _⟩
end Go.Proofs.Ytpbccoobkmahlaa
