/- The program's kept: the shape of those nodes that are kept. No conditions but bounds. -/
import Derived.Test.YtpbccoobkmahlaaKeepS
namespace Go.Proofs.Ytpbccoobkmahlaa
open Go.Fl Go.RowKit

set_option maxHeartbeats 32000000 in
set_option maxRecDepth 100000 in
theorem kept_any (b : Nat) (v kv : Value) (F : Nat → Bool) (L : List Nd) (w : World) (hcell : w.cell? ⟨b, 0, none⟩ = some v) (h : NodesIn w v L) (hV : valid L = true) (hF : RowF w kv L.length F) :
    Calls Try.prog 79 #[.pointer (some ⟨b, 0, none⟩), kv, .func (.func 81) #[] #[]] w (S1Out w (kp L F L.length).2) := by
  obtain ⟨j0, hj, hy0, hy1, hy2⟩ := info_parts info_nd
  obtain ⟨k0, hk0, hx0, hx1, hx2⟩ := info_parts info_i64
  obtain ⟨av, cv, rfl, _⟩ := id h
  obtain ⟨gk, ck, rfl, hkc⟩ := hF
  have H := Lib.hid h
  have HV := Lib.hid hV
  have HC := Lib.hid hcell
  have HK := Lib.hid hkc
  have hlen := (valid_parts hV).2.1
  have hbb : b < w.heap.size := World.block_lt_of_cell? w _ hcell
  have hb2 : k0.bytes * L.length ≤ 281474976710656 := by rw [hx2]; omega
  have hb3 : L.length ≤ maxLen := by unfold maxLen; omega
  have hb0 := bl1 w (.cells #[.slice none 0 0] 26)
  have hR := Bl1.new w (.slice none 0 0)
  have hbx0 := cellk hcell hb0
  have HR := Lib.hid hR
  have hsz0 : w.heap.size ≤ (w.alloc (.cells #[.slice none 0 0] 26)).heap.size := hb0.size
  clear h hV hkc hR
  go_enter Try.func79, Try.ntmps79
  go_wp2_with (at_make; refine wpList_make_full _ rfl _ _ 52 rfl w.heap.size 2 k0 (.int .i64 0) 1 Try.underlying52 hk0 hx0 hx1 .i64 .i64 _ _ L.length rfl rfl rfl rfl hb2 hb3 hsz0 ?_; intro w1 hown hgrow; rw [rowI_zero] at hown; have hb1 := hbl0_below hgrow; have e1 := bl_call hb0 hb1; have hu1 : w.heap.size + 1 < w1.heap.size := by { have := (hown.lt _ rfl).2; simpa using this }; have hbx1 := cellk hcell (bl_alloc e1 (.cells #[.slice none 0 0] 26)))
  have hR1 := (HR.out.keep hb1).keep (bl1 w1 (.cells #[.slice none 0 0] 26))
  have hO1 := Bl1.new w1 (.slice none 0 0)
  have hown1 := own_keep hown (bl1 w1 (.cells #[.slice none 0 0] 26))
  have e2 := bl_alloc e1 (.cells #[.slice none 0 0] 26)
  have hG1 : Gath (w1.alloc (.cells #[.slice none 0 0] 26)) w.heap.size (.slice none 0 0) [] := Gath.nil (World.ownsRow_nil _ _ _ _)
  clear hgrow hbx0 hbx1 hsz0 hb0 hb1 e1 hown hcell
  obtain ⟨c, hc⟩ : ∃ c, w1.heap.size = c := ⟨_, rfl⟩
  rw [hc] at hO1 hu1 ⊢
  clear hc
  go_loopw [25] (fun i wr => ∃ (k : Nat) (v' : Value), k ≤ L.length ∧ i = .int .i64 k ∧ Bl1 wr c v' ∧ Bl1 wr w.heap.size (.slice none 0 0) ∧ wr.ownsRow w.heap.size 2 1 (.slice (some ⟨w.heap.size + 1, 0, none⟩) L.length L.length) L.length (rowI L.length (kp L F k).1) ∧ Gath wr w.heap.size v' (kp L F k).2 ∧ Below w.heap.size w wr) (fun i _ => L.length - (intOf i).toNat)
  case atStart => exact ⟨0, _, Nat.zero_le _, rfl, hO1, hR1, by simpa [kp] using hown1, by simpa [kp] using hG1, e2⟩
  case round =>
    clear hO1 hR1 hown1 hG1 e2
    obtain ⟨k, v', hk, rfl, hO, hR, hP, hG, hbw⟩ := hrel
    by_cases hlt : k < L.length
    · cases hFk : F k
      · have hkr : wr.cell? ⟨gk, k, none⟩ = some (.bool false) := by rw [← hFk]; exact cellk (HK.out k hlt) hbw
        have HT := Lib.hid (kp_no (L := L) hFk)
        have HO := Lib.hid hO
        have HR := Lib.hid hR
        have HP := Lib.hid hP
        have HG := Lib.hid hG
        clear hFk hO hR hP hG
        go_wp2_with fail
        go_roundw
        case rel => exact ⟨k + 1, _, by omega, by go_num, HO.out, HR.out, by rw [HT.out]; exact HP.out, by rw [HT.out]; exact HG.out, hbw⟩
        case measure => simp [intOf]; omega
      · have hkr : wr.cell? ⟨gk, k, none⟩ = some (.bool true) := by rw [← hFk]; exact cellk (HK.out k hlt) hbw
        obtain ⟨M, hMe⟩ : ∃ M, (kp L F k).2 = M := ⟨_, rfl⟩
        have hbR : Below w.heap.size w (wr.setCell ⟨w.heap.size + 1, k, none⟩ (.int .i64 ((M.length : Nat) : Int))) := bl_set hbw (by show _ ≤ w.heap.size + 1; omega) _
        obtain ⟨g, p, rfl, hgl, hNd⟩ := (H.out.keep hbR).at_ hlt
        obtain ⟨d, hd⟩ : ∃ d, at_ L k = d := ⟨_, rfl⟩
        have hNd2 : NdAt (wr.setCell ⟨w.heap.size + 1, k, none⟩ (.int .i64 ((M.length : Nat) : Int))) g (p + k * 4) d := by rw [← hd]; exact hNd
        have hok : okNd k d = true := by rw [← hd]; exact valid_ok HV.out hlt
        have hkd := okNd_kind hok
        have hdx : d.xs.length ≤ 1048576 := by have := nums_few hok; omega
        have hml := kp_len L F k
        have hpl := kp_place L F k
        have HKY := Lib.hid (fun (e : Nd) he => kp_yes (L := L) (d := d) (e := e) hFk hd he)
        obtain ⟨G, hGe⟩ : ∃ G, (kp L F k).1 = G := ⟨_, rfl⟩
        rw [hGe] at hP hpl HKY
        rw [hMe] at hG hml HKY
        have hbx := cellk HC.out hbR
        obtain ⟨va, vc, hv⟩ := hG.form
        subst hv
        obtain ⟨c0, c1, c2, nv, c3, hF⟩ := hNd2
        obtain ⟨nva, nvc, rfl, _⟩ := id hF
        have hsz : w.heap.size + 1 < wr.heap.size := (hP.lt _ rfl).2
        have hcw : c < wr.heap.size := World.block_lt_of_cell? wr _ hO.cell
        obtain ⟨pc, pf, hPR⟩ := bumpI hP hlt M.length
        have hGR := hG.setR hP k (.int .i64 ((M.length : Nat) : Int))
        have hOR := hO.far (p := ⟨w.heap.size + 1, k, none⟩) (by show _ ≠ w.heap.size + 1; omega) (.int .i64 ((M.length : Nat) : Int))
        have hRR := hR.far (p := ⟨w.heap.size + 1, k, none⟩) (by show _ ≠ w.heap.size + 1; omega) (.int .i64 ((M.length : Nat) : Int))
        have hszR : (wr.setCell ⟨w.heap.size + 1, k, none⟩ (.int .i64 ((M.length : Nat) : Int))).heap.size = wr.heap.size := by simp [World.setCell]
        have o0 := hO.cell
        have HszR := Lib.hid hszR
        have HF := Lib.hid hF
        have HGR := Lib.hid hGR
        have HOR := Lib.hid hOR
        have HRR := Lib.hid hRR
        have HPR := Lib.hid hPR
        have HPL := Lib.hid hpl
        have HbR := Lib.hid hbR
        have HCl := Lib.hid (fun x1 x2 W hW => cloneNode_any d.k x1 x2 (.slice nva d.xs.length nvc) d.xs W hW hdx)
        clear hFk hNd hd hG hO hR hP hGe hMe hpl hF hGR hOR hRR hPR hszR hbR hbw
        rcases kids_cases d.k with hK | hK | hK
        · have HT := Lib.hid (HKY.out _ (keptN0 hK))
          have HR2 := Lib.hid (fun W => rule_of (k := d.k) (K := 0) hK hkd W)
          clear hok hkd hK 
          go_wp2_with (first | (go_at_call 93; refine (Calls.mono (by exact HCl.out _ _ _ HF.out) ?_); rintro e w4 ⟨nv4, rfl, hN4, hb4⟩; obtain ⟨na, nc, hnv, _⟩ := id hN4; subst hnv; have hz4 := hb4.size; rw [HszR.out] at hz4) | (go_at_call 73; refine (Calls.mono (by exact HR2.out _) ?_); rintro e w5 ⟨rfl, hb6⟩; have hz6 := hb6.size; simp at hz6; have hB5 : Bl4 w5 w4.heap.size (.int .i64 d.k) (.int .i64 (d.a)) (.int .i64 (d.b)) (.slice na d.xs.length nc) := Bl4.below (heap_alloc_new w4 (.cells #[.int .i64 d.k, .int .i64 (d.a), .int .i64 (d.b), .slice na d.xs.length nc] 78)) hb6 (by simp); have hB6 : Bl4 (w5.alloc (.cells #[.int .i64 (cntK d.k : Nat), .int .i64 0, .bool (axK d.k), .int .i64 (sgK d.k : Nat)] 93)) w4.heap.size (.int .i64 d.k) (.int .i64 (d.a)) (.int .i64 (d.b)) (.slice na d.xs.length nc) := Bl4.below hB5 (bl1 w5 _) (by omega); obtain ⟨r0, r1, r2, r3⟩ := hB6.cells; have f0 := hB6.frozen 0; have f1 := hB6.frozen 1; have f2 := hB6.frozen 2; have f3 := hB6.frozen 3; obtain ⟨q0, q1, q2⟩ := box4c w5 (.int .i64 (cntK d.k : Nat)) (.int .i64 0) (.bool (axK d.k)) (.int .i64 (sgK d.k : Nat)) 93; have hb42 : Below w4.heap.size w4 (w5.alloc (.cells #[.int .i64 (cntK d.k : Nat), .int .i64 0, .bool (axK d.k), .int .i64 (sgK d.k : Nat)] 93)) := (bl1 w4 (.cells #[.int .i64 d.k, .int .i64 (d.a), .int .i64 (d.b), .slice na d.xs.length nc] 78)).trans ((bl_alloc hb6 (.cells #[.int .i64 (cntK d.k : Nat), .int .i64 0, .bool (axK d.k), .int .i64 (sgK d.k : Nat)] 93)).mono (by simp)); have hb46 : Below w4.heap.size w4 (w5.alloc (.cells #[.int .i64 (cntK d.k : Nat), .int .i64 0, .bool (axK d.k), .int .i64 (sgK d.k : Nat)] 93)) := hb42; have hOs := (HOR.out.keep hb4).keep hb46; have o6 := hOs.cell) | (go_at_call 81; refine (itself_any _ _).mono ?_; rintro e w' ⟨rfl, he⟩; subst w') | (at_builtin; have hb47 : Below w4.heap.size w4 ((w5.alloc (.cells #[.int .i64 (cntK d.k : Nat), .int .i64 0, .bool (axK d.k), .int .i64 (sgK d.k : Nat)] 93)).alloc (.cells #[.int .i64 d.k, .int .i64 (d.a), .int .i64 (d.b), .slice na d.xs.length nc] 78)) := bl_alloc hb46 _; have hb8 : Below (wr.setCell ⟨w.heap.size + 1, k, none⟩ (.int .i64 ((M.length : Nat) : Int))).heap.size (wr.setCell ⟨w.heap.size + 1, k, none⟩ (.int .i64 ((M.length : Nat) : Int))) ((w5.alloc (.cells #[.int .i64 (cntK d.k : Nat), .int .i64 0, .bool (axK d.k), .int .i64 (sgK d.k : Nat)] 93)).alloc (.cells #[.int .i64 d.k, .int .i64 (d.a), .int .i64 (d.b), .slice na d.xs.length nc] 78)) := bl_call hb4 hb47; obtain ⟨xs5, hrow, hpush⟩ := HGR.out.push hb8 (d := ⟨d.k, d.a, d.b, d.xs⟩) (hN4.keep hb47) (by rw [HszR.out]; omega); refine wpList_append_lies _ rfl (.tmp 76) (.tmp 78) 24 rfl w.heap.size 78 j0 _ 4 48 Try.underlying24 hj hy0 hy1 hy2 rfl (by decide) (.slice va M.length vc) M.length xs5 rfl hrow ⟨w5.heap.size + 1, 0, none⟩ 1 1 [.int .i64 d.k, .int .i64 (d.a), .int .i64 (d.b), .slice na d.xs.length nc] rfl rfl (news4 (by simpa [World.setCell] using heap_alloc_new (w5.alloc (.cells #[.int .i64 (cntK d.k : Nat), .int .i64 0, .bool (axK d.k), .int .i64 (sgK d.k : Nat)] 93)) (.cells #[.int .i64 d.k, .int .i64 (d.a), .int .i64 (d.b), .slice na d.xs.length nc] 78))) (by simp [Value.oneCell']) (by decide) (by unfold maxLen; omega) (by omega) (by simp; omega) _ rfl ?_; intro g8 c8 w8 hown8 hgrow8 _ _; have hG8 := hpush _ _ hown8 hgrow8; have hO8 := (hOs.keep (bl1 _ (.cells #[.int .i64 d.k, .int .i64 (d.a), .int .i64 (d.b), .slice na d.xs.length nc] 78))).grown hgrow8 (row_apart1 hrow (hOs.keep (bl1 _ (.cells #[.int .i64 d.k, .int .i64 (d.a), .int .i64 (d.b), .slice na d.xs.length nc] 78)))); have o8 := hO8.cell; have f8 := hO8.frozen))
          have hR7 := HRR.out.keep hb8
          have hR5 := hR7.grown hgrow8 (row_apart1 hrow hR7)
          have hP5 := row_grown (own_keep HPR.out hb8) hrow hgrow8
          have hb5 : Below w.heap.size w w8 := (bl_call HbR.out hb8).grown hgrow8 (by simp; omega) (fun r hr => (hrow.lt r hr).1)
          go_roundw
          case rel => exact ⟨k + 1, _, by omega, by go_num, hO8.set _, hR5.far (p := ⟨c, 0, none⟩) (by show _ ≠ c; omega) _, by rw [HT.out.1]; exact row_set1 hP5 hO8 (by decide) _, by rw [HT.out.2]; exact hG8.set1 hO8 _, bl_set hb5 (by show _ ≤ c; omega) _⟩
          case measure => simp [intOf]; omega
        · obtain ⟨A, hA, hAk⟩ := a_in hok (by rw [hK]; omega)
          obtain ⟨x, hx⟩ : ∃ x, G A = x := ⟨_, rfl⟩
          have hxk : x ≤ k := by rw [← hx]; exact HPL.out A
          have HT := Lib.hid (HKY.out _ (keptN1 hK hA hx))
          have HR2 := Lib.hid (fun W => rule_of (k := d.k) (K := 1) hK hkd W)
          have HX := Lib.hid (upd_far (x := M.length) hAk hx)
          rw [hA] at c1
          clear hok hkd hK hA hx
          go_wp2_with (first | (go_at_call 93; refine (Calls.mono (by exact HCl.out _ _ _ HF.out) ?_); rintro e w4 ⟨nv4, rfl, hN4, hb4⟩; obtain ⟨na, nc, hnv, _⟩ := id hN4; subst hnv; have hz4 := hb4.size; rw [HszR.out] at hz4) | (go_at_call 73; refine (Calls.mono (by exact HR2.out _) ?_); rintro e w5 ⟨rfl, hb6⟩; have hz6 := hb6.size; simp at hz6; have hB5 : Bl4 w5 w4.heap.size (.int .i64 d.k) (.int .i64 ((A : Nat))) (.int .i64 (d.b)) (.slice na d.xs.length nc) := Bl4.below (heap_alloc_new w4 (.cells #[.int .i64 d.k, .int .i64 ((A : Nat)), .int .i64 (d.b), .slice na d.xs.length nc] 78)) hb6 (by simp); have hB6 : Bl4 (w5.alloc (.cells #[.int .i64 (cntK d.k : Nat), .int .i64 1, .bool (axK d.k), .int .i64 (sgK d.k : Nat)] 93)) w4.heap.size (.int .i64 d.k) (.int .i64 ((A : Nat))) (.int .i64 (d.b)) (.slice na d.xs.length nc) := Bl4.below hB5 (bl1 w5 _) (by omega); obtain ⟨r0, r1, r2, r3⟩ := hB6.cells; have f0 := hB6.frozen 0; have f1 := hB6.frozen 1; have f2 := hB6.frozen 2; have f3 := hB6.frozen 3; obtain ⟨q0, q1, q2⟩ := box4c w5 (.int .i64 (cntK d.k : Nat)) (.int .i64 1) (.bool (axK d.k)) (.int .i64 (sgK d.k : Nat)) 93; have q1' := cellfar q1 (u := w4.heap.size) (by omega) 1 (.int .i64 ((x : Nat))); have hb42 : Below w4.heap.size w4 (w5.alloc (.cells #[.int .i64 (cntK d.k : Nat), .int .i64 1, .bool (axK d.k), .int .i64 (sgK d.k : Nat)] 93)) := (bl1 w4 (.cells #[.int .i64 d.k, .int .i64 ((A : Nat)), .int .i64 (d.b), .slice na d.xs.length nc] 78)).trans ((bl_alloc hb6 (.cells #[.int .i64 (cntK d.k : Nat), .int .i64 1, .bool (axK d.k), .int .i64 (sgK d.k : Nat)] 93)).mono (by simp)); have hb46 : Below w4.heap.size w4 ((w5.alloc (.cells #[.int .i64 (cntK d.k : Nat), .int .i64 1, .bool (axK d.k), .int .i64 (sgK d.k : Nat)] 93)).setCell ⟨w4.heap.size, 1, none⟩ (.int .i64 ((x : Nat)))) := (bl_set hb42 (Nat.le_refl _) _); have pA : (w5.alloc (.cells #[.int .i64 (cntK d.k : Nat), .int .i64 1, .bool (axK d.k), .int .i64 (sgK d.k : Nat)] 93)).cell? ⟨w.heap.size + 1, A, none⟩ = some (.int .i64 ((x : Nat) : Int)) := readI (own_keep (own_keep HPR.out hb4) hb42) (by omega) HX.out; have hOs := (HOR.out.keep hb4).keep hb46; have o6 := hOs.cell) | (go_at_call 81; refine (itself_any _ _).mono ?_; rintro e w' ⟨rfl, he⟩; subst w') | (at_builtin; have hb47 : Below w4.heap.size w4 (((w5.alloc (.cells #[.int .i64 (cntK d.k : Nat), .int .i64 1, .bool (axK d.k), .int .i64 (sgK d.k : Nat)] 93)).setCell ⟨w4.heap.size, 1, none⟩ (.int .i64 ((x : Nat)))).alloc (.cells #[.int .i64 d.k, .int .i64 ((x : Nat)), .int .i64 (d.b), .slice na d.xs.length nc] 78)) := bl_alloc hb46 _; have hb8 : Below (wr.setCell ⟨w.heap.size + 1, k, none⟩ (.int .i64 ((M.length : Nat) : Int))).heap.size (wr.setCell ⟨w.heap.size + 1, k, none⟩ (.int .i64 ((M.length : Nat) : Int))) (((w5.alloc (.cells #[.int .i64 (cntK d.k : Nat), .int .i64 1, .bool (axK d.k), .int .i64 (sgK d.k : Nat)] 93)).setCell ⟨w4.heap.size, 1, none⟩ (.int .i64 ((x : Nat)))).alloc (.cells #[.int .i64 d.k, .int .i64 ((x : Nat)), .int .i64 (d.b), .slice na d.xs.length nc] 78)) := bl_call hb4 hb47; obtain ⟨xs5, hrow, hpush⟩ := HGR.out.push hb8 (d := ⟨d.k, (x : Nat), d.b, d.xs⟩) (hN4.keep hb47) (by rw [HszR.out]; omega); refine wpList_append_lies _ rfl (.tmp 76) (.tmp 78) 24 rfl w.heap.size 78 j0 _ 4 48 Try.underlying24 hj hy0 hy1 hy2 rfl (by decide) (.slice va M.length vc) M.length xs5 rfl hrow ⟨w5.heap.size + 1, 0, none⟩ 1 1 [.int .i64 d.k, .int .i64 ((x : Nat)), .int .i64 (d.b), .slice na d.xs.length nc] rfl rfl (news4 (by simpa [World.setCell] using heap_alloc_new ((w5.alloc (.cells #[.int .i64 (cntK d.k : Nat), .int .i64 1, .bool (axK d.k), .int .i64 (sgK d.k : Nat)] 93)).setCell ⟨w4.heap.size, 1, none⟩ (.int .i64 ((x : Nat)))) (.cells #[.int .i64 d.k, .int .i64 ((x : Nat)), .int .i64 (d.b), .slice na d.xs.length nc] 78))) (by simp [Value.oneCell']) (by decide) (by unfold maxLen; omega) (by omega) (by simp [World.setCell]; omega) _ rfl ?_; intro g8 c8 w8 hown8 hgrow8 _ _; have hG8 := hpush _ _ hown8 hgrow8; have hO8 := (hOs.keep (bl1 _ (.cells #[.int .i64 d.k, .int .i64 ((x : Nat)), .int .i64 (d.b), .slice na d.xs.length nc] 78))).grown hgrow8 (row_apart1 hrow (hOs.keep (bl1 _ (.cells #[.int .i64 d.k, .int .i64 ((x : Nat)), .int .i64 (d.b), .slice na d.xs.length nc] 78)))); have o8 := hO8.cell; have f8 := hO8.frozen))
          have hR7 := HRR.out.keep hb8
          have hR5 := hR7.grown hgrow8 (row_apart1 hrow hR7)
          have hP5 := row_grown (own_keep HPR.out hb8) hrow hgrow8
          have hb5 : Below w.heap.size w w8 := (bl_call HbR.out hb8).grown hgrow8 (by simp [World.setCell]; omega) (fun r hr => (hrow.lt r hr).1)
          go_roundw
          case rel => exact ⟨k + 1, _, by omega, by go_num, hO8.set _, hR5.far (p := ⟨c, 0, none⟩) (by show _ ≠ c; omega) _, by rw [HT.out.1]; exact row_set1 hP5 hO8 (by decide) _, by rw [HT.out.2]; exact hG8.set1 hO8 _, bl_set hb5 (by show _ ≤ c; omega) _⟩
          case measure => simp [intOf]; omega
        · obtain ⟨A, hA, hAk⟩ := a_in hok (by rw [hK]; omega)
          obtain ⟨B, hB, hBk⟩ := b_in hok hK
          obtain ⟨x, hx⟩ : ∃ x, G A = x := ⟨_, rfl⟩
          have hxk : x ≤ k := by rw [← hx]; exact HPL.out A
          obtain ⟨y, hy⟩ : ∃ y, G B = y := ⟨_, rfl⟩
          have hyk : y ≤ k := by rw [← hy]; exact HPL.out B
          have HT := Lib.hid (HKY.out _ (keptN2 hK hA hB hx hy))
          have HR2 := Lib.hid (fun W => rule_of (k := d.k) (K := 2) hK hkd W)
          have HX := Lib.hid (upd_far (x := M.length) hAk hx)
          have HY := Lib.hid (upd_far (x := M.length) hBk hy)
          rw [hA] at c1
          rw [hB] at c2
          clear hok hkd hK hA hB hx hy
          go_wp2_with (first | (go_at_call 93; refine (Calls.mono (by exact HCl.out _ _ _ HF.out) ?_); rintro e w4 ⟨nv4, rfl, hN4, hb4⟩; obtain ⟨na, nc, hnv, _⟩ := id hN4; subst hnv; have hz4 := hb4.size; rw [HszR.out] at hz4) | (go_at_call 73; refine (Calls.mono (by exact HR2.out _) ?_); rintro e w5 ⟨rfl, hb6⟩; have hz6 := hb6.size; simp at hz6; have hB5 : Bl4 w5 w4.heap.size (.int .i64 d.k) (.int .i64 ((A : Nat))) (.int .i64 ((B : Nat))) (.slice na d.xs.length nc) := Bl4.below (heap_alloc_new w4 (.cells #[.int .i64 d.k, .int .i64 ((A : Nat)), .int .i64 ((B : Nat)), .slice na d.xs.length nc] 78)) hb6 (by simp); have hB6 : Bl4 (w5.alloc (.cells #[.int .i64 (cntK d.k : Nat), .int .i64 2, .bool (axK d.k), .int .i64 (sgK d.k : Nat)] 93)) w4.heap.size (.int .i64 d.k) (.int .i64 ((A : Nat))) (.int .i64 ((B : Nat))) (.slice na d.xs.length nc) := Bl4.below hB5 (bl1 w5 _) (by omega); obtain ⟨r0, r1, r2, r3⟩ := hB6.cells; have f0 := hB6.frozen 0; have f1 := hB6.frozen 1; have f2 := hB6.frozen 2; have f3 := hB6.frozen 3; obtain ⟨q0, q1, q2⟩ := box4c w5 (.int .i64 (cntK d.k : Nat)) (.int .i64 2) (.bool (axK d.k)) (.int .i64 (sgK d.k : Nat)) 93; have q1' := cellfar q1 (u := w4.heap.size) (by omega) 1 (.int .i64 ((x : Nat))); have hb42 : Below w4.heap.size w4 (w5.alloc (.cells #[.int .i64 (cntK d.k : Nat), .int .i64 2, .bool (axK d.k), .int .i64 (sgK d.k : Nat)] 93)) := (bl1 w4 (.cells #[.int .i64 d.k, .int .i64 ((A : Nat)), .int .i64 ((B : Nat)), .slice na d.xs.length nc] 78)).trans ((bl_alloc hb6 (.cells #[.int .i64 (cntK d.k : Nat), .int .i64 2, .bool (axK d.k), .int .i64 (sgK d.k : Nat)] 93)).mono (by simp)); have hb46 : Below w4.heap.size w4 (((w5.alloc (.cells #[.int .i64 (cntK d.k : Nat), .int .i64 2, .bool (axK d.k), .int .i64 (sgK d.k : Nat)] 93)).setCell ⟨w4.heap.size, 1, none⟩ (.int .i64 ((x : Nat)))).setCell ⟨w4.heap.size, 2, none⟩ (.int .i64 ((y : Nat)))) := (bl_set (bl_set hb42 (Nat.le_refl _) _) (Nat.le_refl _) _); have pA : (w5.alloc (.cells #[.int .i64 (cntK d.k : Nat), .int .i64 2, .bool (axK d.k), .int .i64 (sgK d.k : Nat)] 93)).cell? ⟨w.heap.size + 1, A, none⟩ = some (.int .i64 ((x : Nat) : Int)) := readI (own_keep (own_keep HPR.out hb4) hb42) (by omega) HX.out; have pB : ((w5.alloc (.cells #[.int .i64 (cntK d.k : Nat), .int .i64 2, .bool (axK d.k), .int .i64 (sgK d.k : Nat)] 93)).setCell ⟨w4.heap.size, 1, none⟩ (.int .i64 ((x : Nat)))).cell? ⟨w.heap.size + 1, B, none⟩ = some (.int .i64 ((y : Nat) : Int)) := readI (own_keep (own_keep HPR.out hb4) (bl_set hb42 (Nat.le_refl _) _)) (by omega) HY.out; have hOs := (HOR.out.keep hb4).keep hb46; have o6 := hOs.cell) | (go_at_call 81; refine (itself_any _ _).mono ?_; rintro e w' ⟨rfl, he⟩; subst w') | (at_builtin; have hb47 : Below w4.heap.size w4 ((((w5.alloc (.cells #[.int .i64 (cntK d.k : Nat), .int .i64 2, .bool (axK d.k), .int .i64 (sgK d.k : Nat)] 93)).setCell ⟨w4.heap.size, 1, none⟩ (.int .i64 ((x : Nat)))).setCell ⟨w4.heap.size, 2, none⟩ (.int .i64 ((y : Nat)))).alloc (.cells #[.int .i64 d.k, .int .i64 ((x : Nat)), .int .i64 ((y : Nat)), .slice na d.xs.length nc] 78)) := bl_alloc hb46 _; have hb8 : Below (wr.setCell ⟨w.heap.size + 1, k, none⟩ (.int .i64 ((M.length : Nat) : Int))).heap.size (wr.setCell ⟨w.heap.size + 1, k, none⟩ (.int .i64 ((M.length : Nat) : Int))) ((((w5.alloc (.cells #[.int .i64 (cntK d.k : Nat), .int .i64 2, .bool (axK d.k), .int .i64 (sgK d.k : Nat)] 93)).setCell ⟨w4.heap.size, 1, none⟩ (.int .i64 ((x : Nat)))).setCell ⟨w4.heap.size, 2, none⟩ (.int .i64 ((y : Nat)))).alloc (.cells #[.int .i64 d.k, .int .i64 ((x : Nat)), .int .i64 ((y : Nat)), .slice na d.xs.length nc] 78)) := bl_call hb4 hb47; obtain ⟨xs5, hrow, hpush⟩ := HGR.out.push hb8 (d := ⟨d.k, (x : Nat), (y : Nat), d.xs⟩) (hN4.keep hb47) (by rw [HszR.out]; omega); refine wpList_append_lies _ rfl (.tmp 76) (.tmp 78) 24 rfl w.heap.size 78 j0 _ 4 48 Try.underlying24 hj hy0 hy1 hy2 rfl (by decide) (.slice va M.length vc) M.length xs5 rfl hrow ⟨w5.heap.size + 1, 0, none⟩ 1 1 [.int .i64 d.k, .int .i64 ((x : Nat)), .int .i64 ((y : Nat)), .slice na d.xs.length nc] rfl rfl (news4 (by simpa [World.setCell] using heap_alloc_new (((w5.alloc (.cells #[.int .i64 (cntK d.k : Nat), .int .i64 2, .bool (axK d.k), .int .i64 (sgK d.k : Nat)] 93)).setCell ⟨w4.heap.size, 1, none⟩ (.int .i64 ((x : Nat)))).setCell ⟨w4.heap.size, 2, none⟩ (.int .i64 ((y : Nat)))) (.cells #[.int .i64 d.k, .int .i64 ((x : Nat)), .int .i64 ((y : Nat)), .slice na d.xs.length nc] 78))) (by simp [Value.oneCell']) (by decide) (by unfold maxLen; omega) (by omega) (by simp [World.setCell]; omega) _ rfl ?_; intro g8 c8 w8 hown8 hgrow8 _ _; have hG8 := hpush _ _ hown8 hgrow8; have hO8 := (hOs.keep (bl1 _ (.cells #[.int .i64 d.k, .int .i64 ((x : Nat)), .int .i64 ((y : Nat)), .slice na d.xs.length nc] 78))).grown hgrow8 (row_apart1 hrow (hOs.keep (bl1 _ (.cells #[.int .i64 d.k, .int .i64 ((x : Nat)), .int .i64 ((y : Nat)), .slice na d.xs.length nc] 78)))); have o8 := hO8.cell; have f8 := hO8.frozen))
          have hR7 := HRR.out.keep hb8
          have hR5 := hR7.grown hgrow8 (row_apart1 hrow hR7)
          have hP5 := row_grown (own_keep HPR.out hb8) hrow hgrow8
          have hb5 : Below w.heap.size w w8 := (bl_call HbR.out hb8).grown hgrow8 (by simp [World.setCell]; omega) (fun r hr => (hrow.lt r hr).1)
          go_roundw
          case rel => exact ⟨k + 1, _, by omega, by go_num, hO8.set _, hR5.far (p := ⟨c, 0, none⟩) (by show _ ≠ c; omega) _, by rw [HT.out.1]; exact row_set1 hP5 hO8 (by decide) _, by rw [HT.out.2]; exact hG8.set1 hO8 _, bl_set hb5 (by show _ ≤ c; omega) _⟩
          case measure => simp [intOf]; omega
    · obtain rfl : k = L.length := by omega
      obtain ⟨va, vc, rfl⟩ := hG.form
      have o0 := hO.cell
      have r0 := hR.cell
      have fr := hR.frozen
      have HG := Lib.hid hG
      clear hG hlt
      go_wp2_with fail
      refine bodyPost_ret (results_cell_row rfl _ _ w.heap.size 26 _ (0, 0) _ rfl (Bl1.set hR _) Try.underlying26 rfl (by kernel_rfl)) rfl ?_
      exact ⟨_, rfl, (HG.out.set1 hR (.slice va (kp L F L.length).2.length vc)).own, bl_set hbw (Nat.le_refl _) _⟩
end Go.Proofs.Ytpbccoobkmahlaa
