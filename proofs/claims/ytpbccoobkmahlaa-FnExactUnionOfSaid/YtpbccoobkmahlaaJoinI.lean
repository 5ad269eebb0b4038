/- The program's JoinShapes. No conditions but bounds. -/
import Derived.Test.YtpbccoobkmahlaaJoinG
import Derived.Test.YtpbccoobkmahlaaGathN
import Derived.Deep.Cut
namespace Go.Proofs.Ytpbccoobkmahlaa
open Go.Fl Go.RowKit

/-- A node of a shape of a call's own, and the value of its numbers. -/
theorem OwnSh.nd {w : World} {lo hi n c : Nat} {a : Option Addr} {L : List Nd} (h : OwnSh w lo hi (.slice a n c) L) {i : Nat} {d : Nd} (hi' : i < L.length) (hd : at_ L i = d) : ∃ g nv, a = some ⟨g, 0, none⟩ ∧ g < hi ∧ lo ≤ g ∧ w.cell? ⟨g, i * 4, none⟩ = some (.int .i64 d.k) ∧ w.cell? ⟨g, i * 4 + 1, none⟩ = some (.int .i64 d.a) ∧ w.cell? ⟨g, i * 4 + 2, none⟩ = some (.int .i64 d.b) ∧ w.cell? ⟨g, i * 4 + 3, none⟩ = some nv ∧ NumV w nv d.xs := by
  obtain ⟨P, rfl, h1, h2, h3, h4, h5⟩ := h
  rw [List.length_map] at hi'
  rcases h1.2 with ⟨e, h0⟩ | ⟨g, cap, cur, e, hb, hg, rest⟩
  · omega
  · injection e with e1 e2 e3
    subst e1 e2 e3
    have hc : ∀ j, j < 4 → w.cell? ⟨g, i * 4 + j, none⟩ = (fl4 P[i])[j]? := fun j hj => (h1.cellAt (i * 4 + j) (by omega)).trans (flatP_get P i j hi' hj)
    have e : d = P[i].d := by rw [← hd]; simp [at_, hi']
    subst e
    exact ⟨g, P[i].nv, rfl, h2 g rfl, hb, hc 0 (by omega), hc 1 (by omega), hc 2 (by omega), hc 3 (by omega), P[i], rfl, rfl, (h3 _ (List.getElem_mem hi')).grow (Nat.zero_le _) h5⟩
/-- A row of nodes and a block that holds a shape are apart. -/
theorem GathN.apart1 {w : World} {lo g : Nat} {v x : Value} {M : List Nd} (h : GathN w lo v M) (hB : Bl1 w g x) : ∀ r, v.ownBlock = some r → g ≠ r := by
  obtain ⟨P, _, h1, _⟩ := h
  rintro r hr rfl
  rcases h1.2 with ⟨rfl, h0⟩ | ⟨g1, cap, cur, rfl, _, hh, _⟩
  · simp [Value.ownBlock] at hr
  · simp only [Value.ownBlock, Option.some.injEq] at hr
    subst hr
    rw [show w.heap[g1]? = _ from hB] at hh
    simp at hh
theorem cell_far {w : World} {g g' i : Nat} (h : g ≠ g') (y : Value) : (w.setCell ⟨g', 0, none⟩ y).cell? ⟨g, i, none⟩ = w.cell? ⟨g, i, none⟩ := by
  have := Below.heap_setCell w ⟨g', 0, none⟩ y g h
  exact World.cell?_of_block (a := ⟨g, i, none⟩) this
theorem un_drw {w w' : World} (h : Below w.drew.heap.size w.drew w') : Below w.heap.size w w' := ⟨h.os, h.tape, h.output, h.size, h.block⟩
theorem GathN.lower {w : World} {lo lo' : Nat} {v : Value} {M : List Nd} (h : GathN w lo v M) (hl : lo' ≤ lo) : GathN w lo' v M := by
  obtain ⟨P, e, h1, h3⟩ := h
  exact ⟨P, e, own_mono h1 hl, h3⟩
def JCut (w2 : World) (A : List Nd) (s12 s13 : Value) (wx : World) : Prop := s13 = .int .i64 A.length ∧ ∃ g a n, s12 = .pointer (some ⟨g, 0, none⟩) ∧ Bl1 wx g (.slice a A.length n) ∧ GathN wx w2.heap.size (.slice a A.length n) A ∧ w2.heap.size ≤ g ∧ Below w2.heap.size w2 wx
set_option maxHeartbeats 64000000 in
set_option maxRecDepth 100000 in
theorem JoinShapes_any (k : Int) (va vb u : Value) (A B : List Nd) (xs : List Nat) (lo hi : Nat) (w : World) (ha : NodesIn w va A) (hb : OwnSh w lo hi vb B) (hma : Mod A) (hmb : Mod B) (hu : NumV w u xs) (hn : xs.length ≤ 1048576) :
    Calls Try.prog 43 #[.int .i64 k, .agg #[va], .agg #[vb], u] w (SOut w (joinL k A B xs) (joinB k A B xs)) := by
  obtain ⟨j0, hj, hy0, hy1, hy2⟩ := info_parts info_nd
  obtain ⟨aa, ca, rfl, _⟩ := id ha
  obtain ⟨ab, cb, rfl⟩ := hb.form
  obtain ⟨au, cu, rfl, _⟩ := id hu.fin
  have HA := Lib.hid ha
  have HB := Lib.hid hb
  have HU := Lib.hid hu
  have HMA := Lib.hid hma
  have HMB := Lib.hid hmb
  have hb0 := bl3 w (.cells #[.slice aa A.length ca] 26) (.cells #[.slice ab B.length cb] 26) (.cells #[.slice none 0 0] 26)
  obtain ⟨hA, hB, hC⟩ := Bl1.three w (.slice aa A.length ca) (.slice ab B.length cb) (.slice none 0 0)
  have XA := Lib.hid hA
  have XB := Lib.hid hB
  have XC := Lib.hid hC
  have hla := hma.1
  have hlb := hmb.1
  clear ha hb hu hma hmb hA hB hC
  cases hO : okK k
  · have hK0 : ¬ kidsK k ≠ 0 := fun hh => by rw [ok_kids hh] at hO; cases hO
    obtain ⟨e1, e2⟩ := join_no (k := k) (A := A) (B := B) (xs := xs) (fun hh => by omega)
    rw [e1, e2]
    have HR := Lib.hid (fun W => rule_of (k := k) (K := kidsK k) rfl hO W)
    generalize kidsK k = K at HR
    clear hK0 hO e1 e2
    go_enter Try.func43, Try.ntmps43
    go_wp2_with (go_at_call 73; refine (Calls.mono (by exact HR.out _) ?_); rintro e w1 ⟨rfl, hb1⟩; have hb2 := bl_alloc hb1 (.cells #[.int .i64 (cntK k : Nat), .int .i64 (K : Nat), .bool (axK k), .int .i64 (sgK k : Nat)] 93); have hC1 := XC.out.keep hb2; have r0 := hC1.cell; have fr := hC1.frozen)
    refine bodyPost_ret (results_shape rfl _ _ (w.heap.size + 1 + 1) _ rfl (Bl1.set hC1 _)) rfl ?_
    exact ⟨_, rfl, OwnSh.nil _ _ _ (Nat.le_refl _), bl_set (bl_call hb0 hb2) (by show _ ≤ w.heap.size + 1 + 1; omega) _⟩
  by_cases hK : kidsK k = 2
  rotate_left
  · obtain ⟨e1, e2⟩ := join_no (k := k) (A := A) (B := B) (xs := xs) (fun hh => hK hh.2.2)
    rw [e1, e2]
    have HR := Lib.hid (fun W => rule_of (k := k) (K := kidsK k) rfl hO W)
    have hne : (((kidsK k : Nat) : Int) != 2) = true := by simp; omega
    generalize kidsK k = K at HR hne
    clear hO e1 e2 hK
    go_enter Try.func43, Try.ntmps43
    go_wp2_with (go_at_call 73; refine (Calls.mono (by exact HR.out _) ?_); rintro e w1 ⟨rfl, hb1⟩; have hb2 := bl_alloc hb1 (.cells #[.int .i64 (cntK k : Nat), .int .i64 (K : Nat), .bool (axK k), .int .i64 (sgK k : Nat)] 93); have hC1 := XC.out.keep hb2; have r0 := hC1.cell; have fr := hC1.frozen; obtain ⟨q0, q1, q2⟩ := box4c w1 (.int .i64 (cntK k : Nat)) (.int .i64 (K : Nat)) (.bool (axK k)) (.int .i64 (sgK k : Nat)) 93)
    refine bodyPost_ret (results_shape rfl _ _ (w.heap.size + 1 + 1) _ rfl (Bl1.set hC1 _)) rfl ?_
    exact ⟨_, rfl, OwnSh.nil _ _ _ (Nat.le_refl _), bl_set (bl_call hb0 hb2) (by show _ ≤ w.heap.size + 1 + 1; omega) _⟩
  have HR := Lib.hid (fun W => rule_of (k := k) (K := 2) hK hO W)
  cases hVA : valid A
  · obtain ⟨e1, e2⟩ := join_no (k := k) (A := A) (B := B) (xs := xs) (fun hh => by rw [hVA] at hh; exact absurd hh.1 (by simp))
    rw [e1, e2]
    have IA := Lib.hid (fun W hW => ValidShape_at hVA (.slice aa A.length ca) W hW HMA.out)
    clear hVA e1 e2 hK hO
    go_enter Try.func43, Try.ntmps43
    go_wp2_with (first | (go_at_call 73; refine (Calls.mono (by exact HR.out _) ?_); rintro e w1 ⟨rfl, hb1⟩; have hb2 := bl_alloc hb1 (.cells #[.int .i64 (cntK k : Nat), .int .i64 2, .bool (axK k), .int .i64 (sgK k : Nat)] 93); have hA1 := XA.out.keep hb2; have a1 := hA1.cell; have hB1 := XB.out.keep hb2; have hC1 := XC.out.keep hb2; obtain ⟨q0, q1, q2⟩ := box4c w1 (.int .i64 (cntK k : Nat)) (.int .i64 2) (.bool (axK k)) (.int .i64 (sgK k : Nat)) 93) | (go_at_call 27; refine (Calls.mono (by exact IA.out _ ((HA.out.keep hb0).keep hb2)) ?_); rintro e w2 ⟨rfl, hb3⟩; have hC2 := hC1.keep hb3; have r0 := hC2.cell; have fr := hC2.frozen))
    refine bodyPost_ret (results_shape rfl _ _ (w.heap.size + 1 + 1) _ rfl (Bl1.set hC2 _)) rfl ?_
    exact ⟨_, rfl, OwnSh.nil _ _ _ (Nat.le_refl _), bl_set (bl_call (bl_call hb0 hb2) hb3) (by show _ ≤ w.heap.size + 1 + 1; omega) _⟩
  have IA := Lib.hid (fun W hW => ValidShape_at hVA (.slice aa A.length ca) W hW HMA.out)
  cases hVB : valid B
  · obtain ⟨e1, e2⟩ := join_no (k := k) (A := A) (B := B) (xs := xs) (fun hh => by rw [hVB] at hh; exact absurd hh.2.1 (by simp))
    rw [e1, e2]
    have IB := Lib.hid (fun W hW => ValidShape_at hVB (.slice ab B.length cb) W hW HMB.out)
    clear hVA hVB e1 e2 hK hO
    go_enter Try.func43, Try.ntmps43
    go_wp2_with (first | (go_at_call 73; refine (Calls.mono (by exact HR.out _) ?_); rintro e w1 ⟨rfl, hb1⟩; have hb2 := bl_alloc hb1 (.cells #[.int .i64 (cntK k : Nat), .int .i64 2, .bool (axK k), .int .i64 (sgK k : Nat)] 93); have hA1 := XA.out.keep hb2; have a1 := hA1.cell; have hB1 := XB.out.keep hb2; have hC1 := XC.out.keep hb2; obtain ⟨q0, q1, q2⟩ := box4c w1 (.int .i64 (cntK k : Nat)) (.int .i64 2) (.bool (axK k)) (.int .i64 (sgK k : Nat)) 93) | (go_at_call 27; have hx := xB2; refine (Calls.mono (by exact IB.out _ (((HB.out.nodes.keep hb0).keep hb2).keep hb3)) ?_); rintro e w3 ⟨rfl, hb4⟩; have hC3 := hC2.keep hb4; have r0 := hC3.cell; have fr := hC3.frozen) | (go_at_call 27; refine (Calls.mono (by exact IA.out _ ((HA.out.keep hb0).keep hb2)) ?_); rintro e w2 ⟨rfl, hb3⟩; have hC2 := hC1.keep hb3; have xB2 := (hB1.keep hb3).cell))
    refine bodyPost_ret (results_shape rfl _ _ (w.heap.size + 1 + 1) _ rfl (Bl1.set hC3 _)) rfl ?_
    exact ⟨_, rfl, OwnSh.nil _ _ _ (Nat.le_refl _), bl_set (bl_call (bl_call (bl_call hb0 hb2) hb3) hb4) (by show _ ≤ w.heap.size + 1 + 1; omega) _⟩
  have IB := Lib.hid (fun W hW => ValidShape_at hVB (.slice ab B.length cb) W hW HMB.out)
  have HVB := Lib.hid hVB
  have hla16 := (valid_parts hVA).2.1
  have hlb16 := (valid_parts hVB).2.1
  obtain ⟨e1, e2⟩ := join_yes (k := k) (xs := xs) hVA hVB hK
  rw [e1, e2]
  have HK := Lib.hid (fun W hW => cloneShape_any (.slice aa A.length ca) A W hW HMA.out)
  have HT := Lib.hid (fun v' W hW => told_any v' (joinN k A B xs) W hW (mod_join hVA hVB hn))
  have HN := Lib.hid (show joinN k A B xs = (A ++ B.map (shN A.length)) ++ [⟨k, (A.length : Int) - 1, (((A ++ B.map (shN A.length)).length : Nat) : Int) - 1, xs⟩] by unfold joinN; simp)
  generalize joinN k A B xs = L' at HT HN ⊢
  clear hVA hVB e1 e2 hK hO
  go_enter Try.func43, Try.ntmps43
  go_upto_region 4 with (first | (go_at_call 73; refine (Calls.mono (by exact HR.out _) ?_); rintro e w1 ⟨rfl, hb1⟩; have hb2 := bl_alloc hb1 (.cells #[.int .i64 (cntK k : Nat), .int .i64 2, .bool (axK k), .int .i64 (sgK k : Nat)] 93); have hA1 := XA.out.keep hb2; have a1 := hA1.cell; have hB1 := XB.out.keep hb2; have hC1 := XC.out.keep hb2; obtain ⟨q0, q1, q2⟩ := box4c w1 (.int .i64 (cntK k : Nat)) (.int .i64 2) (.bool (axK k)) (.int .i64 (sgK k : Nat)) 93) | (go_at_call 27; have hx := xB2; refine (Calls.mono (by exact IB.out _ (((HB.out.nodes.keep hb0).keep hb2).keep hb3)) ?_); rintro e w3 ⟨rfl, hb4⟩; have hC3 := hC2.keep hb4; have hA3 := hA2.keep hb4; have hB3 := hB2.keep hb4; have e3 := bl_call e2 hb4) | (go_at_call 27; refine (Calls.mono (by exact IA.out _ ((HA.out.keep hb0).keep hb2)) ?_); rintro e w2 ⟨rfl, hb3⟩; have hC2 := hC1.keep hb3; have hA2 := hA1.keep hb3; have hB2 := hB1.keep hb3; have xB2 := hB2.cell; have e2 := bl_call (bl_call hb0 hb2) hb3))
  have hzz : w.heap.size + 1 + 1 < w3.heap.size := World.block_lt_of_cell? w3 _ hC3.cell
  have XA3 := Lib.hid hA3
  have xA3 := hA3.cell
  clear hC1 hC2 hA1 hA2 hB1 hB2 q0 q1 q2 xB2 hb2 hb3 hb4 e2 a1 hA3
  go_cut [12, 13] (fun s12 s13 wx => JCut w3 A s12 s13 wx)
  case first =>
    have yA : w3.drew.cell? ⟨w.heap.size, 0, none⟩ = some (.slice aa A.length ca) := xA3
    have hZ := Bl1.new w3 (.slice none 0 0)
    have zA' : (w3.alloc (.cells #[.slice none 0 0] 26)).cell? ⟨w.heap.size, 0, none⟩ = some (.slice aa A.length ca) := cellk xA3 (bl1 w3 _)
    have yA' : (w3.alloc (.cells #[.slice none 0 0] 26)).drew.cell? ⟨w.heap.size, 0, none⟩ = some (.slice aa A.length ca) := zA'
    go_region_law (first | (go_simp; go_at_call 74; refine (Calls.mono (by exact HK.out _ (HA.out.keep (bl_drew e3))) ?_); rintro e w4 ⟨u4, rfl, hG4, hb5⟩; obtain ⟨a4, n4, hu4⟩ := hG4.form; subst hu4; have xA4 := cellk yA hb5; have xA5 := cellk xA4 (bl1 w4 (.cells #[.slice none 0 0] 26)); have hlt4 := World.block_lt_of_cell? w4 _ xA4; have xA6 : ((w4.alloc (.cells #[.slice none 0 0] 26)).setCell ⟨w4.heap.size, 0, none⟩ (.slice a4 A.length n4)).cell? ⟨w.heap.size, 0, none⟩ = some (.slice aa A.length ca) := (cell_far (by simp at hlt4; omega) _).trans xA5) | (go_simp; go_at_call 74; refine (Calls.mono (by exact HK.out _ (HA.out.keep (bl_drew (bl_alloc e3 _)))) ?_); rintro e w4 ⟨u4, rfl, hG4, hb5⟩; obtain ⟨a4, n4, hu4⟩ := hG4.form; subst hu4; have xA4 := cellk yA' hb5; have hO4 : Bl1 w4 w3.heap.size (.slice none 0 0) := Bl1.keep (show Bl1 (w3.alloc (.cells #[.slice none 0 0] 26)).drew w3.heap.size (.slice none 0 0) from hZ) hb5; have o4 := hO4.cell; have f4 := hO4.frozen; have xA6 : (w4.setCell ⟨w3.heap.size, 0, none⟩ (.slice a4 A.length n4)).cell? ⟨w.heap.size, 0, none⟩ = some (.slice aa A.length ca) := (cell_far (by omega) _).trans xA4))
    all_goals (go_wp2_with fail; go_meet; first | (have hx := hO4; exact ⟨rfl, _, _, _, rfl, Bl1.set hO4 _, ((GathN.of hG4).lower (show w3.heap.size ≤ (w3.alloc (.cells #[.slice none 0 0] 26)).heap.size by simp)).set1 hO4 _, Nat.le_refl _, bl_set ((bl1 w3 (.cells #[.slice none 0 0] 26)).trans (show Below w3.heap.size (w3.alloc (.cells #[.slice none 0 0] 26)) w4 from Below.mono (un_drw hb5) (by simp))) (Nat.le_refl _) _⟩) | (have hb6 : Below w3.heap.size w3 w4 := un_drw hb5; first | exact ⟨rfl, _, _, _, rfl, Bl1.new _ _, ((GathN.of hG4).keep (bl1 _ _)), hb6.size, bl_alloc hb6 _⟩ | exact ⟨rfl, _, _, _, rfl, Bl1.set (Bl1.new _ _) _, ((GathN.of hG4).keep (bl1 _ _)).set1 (Bl1.new _ _) _, hb6.size, bl_set (bl_alloc hb6 _) hb6.size _⟩))
  case rest =>
    obtain ⟨rfl, g, a4, n4, rfl, hO4, hG4, hg4, hb5⟩ := hcut
    have xB4 := (hB3.keep hb5).cell
    have HB3 := Lib.hid hB3
    have HC3 := Lib.hid hC3
    have HO4 := Lib.hid hO4
    have HG4 := Lib.hid hG4
    have HB5 := Lib.hid hb5
    clear hB3 hC3 hO4 hG4 hb5
    go_wp2_with fail
    go_loopw [49] (fun i wr => ∃ (m : Nat) (v' : Value), m ≤ B.length ∧ i = .int .i64 m ∧ Bl1 wr g v' ∧ GathN wr w3.heap.size v' (A ++ (B.take m).map (shN A.length)) ∧ Below w3.heap.size w3 wr) (fun i _ => B.length - (intOf i).toNat)
    case atStart => exact ⟨0, _, Nat.zero_le _, rfl, HO4.out, by simpa using HG4.out, HB5.out⟩
    case round =>
      clear xB4
      obtain ⟨m, v', hm, rfl, hO, hG, hbw⟩ := hrel
      by_cases hlt : m < B.length
      · obtain ⟨d, hd⟩ : ∃ d, at_ B m = d := ⟨_, rfl⟩
        have hok : okNd m d = true := by rw [← hd]; exact valid_ok HVB.out hlt
        have hkd := okNd_kind hok
        obtain ⟨gB, nv, hab, hgl, hgl2, c0, c1, c2, c3, hNV⟩ := OwnSh.nd (HB.out.keep (bl_call e3 hbw)) hlt hd
        subst hab
        obtain ⟨nva, nvc, rfl, _⟩ := id hNV.fin
        have hlk : (A ++ (B.take m).map (shN A.length)).length = A.length + m := by simp; omega
        obtain ⟨v1, v2, hv⟩ := hG.form
        rw [hlk] at hv
        subst hv
        have Hd := Lib.hid hd
        have HLK := Lib.hid hlk
        have HG := Lib.hid hG
        have HO := Lib.hid hO
        have HNV := Lib.hid hNV
        have hdx : d.xs.length ≤ 1048576 := by have := nums_few hok; omega
        have hgw : g < wr.heap.size := World.block_lt_of_cell? wr _ hO.cell
        have hsz := hbw.size
        clear hd hlk hG hO hNV
        rcases kids_cases d.k with hK | hK | hK
        · have HT := Lib.hid (sh_next (M := A) hlt Hd.out (shN0 (n := A.length) (x := d.a) hK rfl))
          have HR2 := Lib.hid (fun W => rule_of (k := d.k) (K := 0) hK hkd W)
          clear hok hkd hK
          go_wp2_with (first | (go_at_call 73; refine (Calls.mono (by exact HR2.out _) ?_); rintro e w5 ⟨rfl, hb6⟩; have hz6 := hb6.size; simp at hz6; have hB5 : Bl4 w5 wr.heap.size (.int .i64 d.k) (.int .i64 (d.a)) (.int .i64 (d.b)) (.slice nva d.xs.length nvc) := Bl4.below (heap_alloc_new wr (.cells #[.int .i64 d.k, .int .i64 (d.a), .int .i64 (d.b), .slice nva d.xs.length nvc] 78)) hb6 (by simp); have hB6 : Bl4 (w5.alloc (.cells #[.int .i64 (cntK d.k : Nat), .int .i64 0, .bool (axK d.k), .int .i64 (sgK d.k : Nat)] 93)) wr.heap.size (.int .i64 d.k) (.int .i64 (d.a)) (.int .i64 (d.b)) (.slice nva d.xs.length nvc) := Bl4.below hB5 (bl1 w5 _) (by omega); obtain ⟨r0, r1, r2, r3⟩ := hB6.cells; have f0 := hB6.frozen 0; have f1 := hB6.frozen 1; have f2 := hB6.frozen 2; have f3 := hB6.frozen 3; obtain ⟨q0, q1, q2⟩ := box4c w5 (.int .i64 (cntK d.k : Nat)) (.int .i64 0) (.bool (axK d.k)) (.int .i64 (sgK d.k : Nat)) 93; have hbx : Below wr.heap.size wr (w5.alloc (.cells #[.int .i64 (cntK d.k : Nat), .int .i64 0, .bool (axK d.k), .int .i64 (sgK d.k : Nat)] 93)) := (bl1 wr (.cells #[.int .i64 d.k, .int .i64 (d.a), .int .i64 (d.b), .slice nva d.xs.length nvc] 78)).trans ((bl_alloc hb6 (.cells #[.int .i64 (cntK d.k : Nat), .int .i64 0, .bool (axK d.k), .int .i64 (sgK d.k : Nat)] 93)).mono (by simp)); have hOs : Bl1 (w5.alloc (.cells #[.int .i64 (cntK d.k : Nat), .int .i64 0, .bool (axK d.k), .int .i64 (sgK d.k : Nat)] 93)) g _ := (HO.out.keep hbx); have o6 := hOs.cell) | (at_builtin; have hb8 : Below wr.heap.size wr ((w5.alloc (.cells #[.int .i64 (cntK d.k : Nat), .int .i64 0, .bool (axK d.k), .int .i64 (sgK d.k : Nat)] 93)).alloc (.cells #[.int .i64 d.k, .int .i64 (d.a), .int .i64 (d.b), .slice nva d.xs.length nvc] 78)) := bl_alloc hbx _; have hG7 := HG.out.keep hb8; obtain ⟨xs5, hrow, hpush⟩ := hG7.push (d := ⟨d.k, d.a, d.b, d.xs⟩) (HNV.out.keep hb8); rw [HLK.out] at hrow hpush; refine wpList_append_lies _ rfl (.tmp 76) (.tmp 78) 24 rfl w3.heap.size 78 j0 _ 4 48 Try.underlying24 hj hy0 hy1 hy2 rfl (by decide) (.slice v1 (A.length + m) v2) (A.length + m) xs5 rfl hrow ⟨w5.heap.size + 1, 0, none⟩ 1 1 [.int .i64 d.k, .int .i64 (d.a), .int .i64 (d.b), .slice nva d.xs.length nvc] rfl rfl (news4 (by simpa [World.setCell] using heap_alloc_new (w5.alloc (.cells #[.int .i64 (cntK d.k : Nat), .int .i64 0, .bool (axK d.k), .int .i64 (sgK d.k : Nat)] 93)) (.cells #[.int .i64 d.k, .int .i64 (d.a), .int .i64 (d.b), .slice nva d.xs.length nvc] 78))) (by simp [Value.oneCell']) (by decide) (by unfold maxLen; omega) (by omega) (by simp; omega) _ rfl ?_; intro g8 c8 w8 hown8 hgrow8 _ _; have hG8 := hpush _ _ hown8 hgrow8; have hO8 := (hOs.keep (bl1 _ (.cells #[.int .i64 d.k, .int .i64 (d.a), .int .i64 (d.b), .slice nva d.xs.length nvc] 78))).grown hgrow8 (hG7.apart1 (hOs.keep (bl1 _ (.cells #[.int .i64 d.k, .int .i64 (d.a), .int .i64 (d.b), .slice nva d.xs.length nvc] 78)))); have o8 := hO8.cell; have f8 := hO8.frozen))
          have hb9 : Below w3.heap.size w3 (w8.setCell ⟨g, 0, none⟩ (.slice (some ⟨g8, 0, none⟩) (A.length + m + 1) c8)) := Below.setCell ((hbw.trans (hb8.mono hsz)).grown hgrow8 (by simp; omega) (fun r hr => (hG7.block r hr).1)) hg4 _
          go_roundw
          case rel => exact ⟨m + 1, _, by omega, by go_num, Bl1.set hO8 _, by rw [HT.out]; exact hG8.set1 hO8 _, hb9⟩
          case measure => simp [intOf]; omega
        · obtain ⟨x1, hx1, hx1k⟩ := a_in hok (by rw [hK]; omega)
          have HT := Lib.hid (sh_next (M := A) hlt Hd.out (shN1 (n := A.length) hK hx1))
          have HR2 := Lib.hid (fun W => rule_of (k := d.k) (K := 1) hK hkd W)
          rw [hx1] at c1
          clear hok hkd hK
          go_wp2_with (first | (go_at_call 73; refine (Calls.mono (by exact HR2.out _) ?_); rintro e w5 ⟨rfl, hb6⟩; have hz6 := hb6.size; simp at hz6; have hB5 : Bl4 w5 wr.heap.size (.int .i64 d.k) (.int .i64 ((x1 : Nat))) (.int .i64 (d.b)) (.slice nva d.xs.length nvc) := Bl4.below (heap_alloc_new wr (.cells #[.int .i64 d.k, .int .i64 ((x1 : Nat)), .int .i64 (d.b), .slice nva d.xs.length nvc] 78)) hb6 (by simp); have hB6 : Bl4 (w5.alloc (.cells #[.int .i64 (cntK d.k : Nat), .int .i64 1, .bool (axK d.k), .int .i64 (sgK d.k : Nat)] 93)) wr.heap.size (.int .i64 d.k) (.int .i64 ((x1 : Nat))) (.int .i64 (d.b)) (.slice nva d.xs.length nvc) := Bl4.below hB5 (bl1 w5 _) (by omega); obtain ⟨r0, r1, r2, r3⟩ := hB6.cells; have f0 := hB6.frozen 0; have f1 := hB6.frozen 1; have f2 := hB6.frozen 2; have f3 := hB6.frozen 3; obtain ⟨q0, q1, q2⟩ := box4c w5 (.int .i64 (cntK d.k : Nat)) (.int .i64 1) (.bool (axK d.k)) (.int .i64 (sgK d.k : Nat)) 93; have q1' := cellfar q1 (u := wr.heap.size) (by omega) 1 (.int .i64 ((x1 : Int) + (A.length : Nat))); have hbx : Below wr.heap.size wr (w5.alloc (.cells #[.int .i64 (cntK d.k : Nat), .int .i64 1, .bool (axK d.k), .int .i64 (sgK d.k : Nat)] 93)) := (bl1 wr (.cells #[.int .i64 d.k, .int .i64 ((x1 : Nat)), .int .i64 (d.b), .slice nva d.xs.length nvc] 78)).trans ((bl_alloc hb6 (.cells #[.int .i64 (cntK d.k : Nat), .int .i64 1, .bool (axK d.k), .int .i64 (sgK d.k : Nat)] 93)).mono (by simp)); have hOs : Bl1 ((w5.alloc (.cells #[.int .i64 (cntK d.k : Nat), .int .i64 1, .bool (axK d.k), .int .i64 (sgK d.k : Nat)] 93)).setCell ⟨wr.heap.size, 1, none⟩ (.int .i64 ((x1 : Int) + (A.length : Nat)))) g _ := ((HO.out.keep hbx).far (p := ⟨wr.heap.size, 1, none⟩) (by show g ≠ wr.heap.size; omega) (.int .i64 ((x1 : Int) + (A.length : Nat)))); have o6 := hOs.cell) | (at_builtin; have hb8 : Below wr.heap.size wr (((w5.alloc (.cells #[.int .i64 (cntK d.k : Nat), .int .i64 1, .bool (axK d.k), .int .i64 (sgK d.k : Nat)] 93)).setCell ⟨wr.heap.size, 1, none⟩ (.int .i64 ((x1 : Int) + (A.length : Nat)))).alloc (.cells #[.int .i64 d.k, .int .i64 ((x1 : Int) + (A.length : Nat)), .int .i64 (d.b), .slice nva d.xs.length nvc] 78)) := bl_alloc (bl_set hbx (Nat.le_refl _) _) _; have hG7 := HG.out.keep hb8; obtain ⟨xs5, hrow, hpush⟩ := hG7.push (d := ⟨d.k, (x1 : Int) + (A.length : Nat), d.b, d.xs⟩) (HNV.out.keep hb8); rw [HLK.out] at hrow hpush; refine wpList_append_lies _ rfl (.tmp 76) (.tmp 78) 24 rfl w3.heap.size 78 j0 _ 4 48 Try.underlying24 hj hy0 hy1 hy2 rfl (by decide) (.slice v1 (A.length + m) v2) (A.length + m) xs5 rfl hrow ⟨w5.heap.size + 1, 0, none⟩ 1 1 [.int .i64 d.k, .int .i64 ((x1 : Int) + (A.length : Nat)), .int .i64 (d.b), .slice nva d.xs.length nvc] rfl rfl (news4 (by simpa [World.setCell] using heap_alloc_new ((w5.alloc (.cells #[.int .i64 (cntK d.k : Nat), .int .i64 1, .bool (axK d.k), .int .i64 (sgK d.k : Nat)] 93)).setCell ⟨wr.heap.size, 1, none⟩ (.int .i64 ((x1 : Int) + (A.length : Nat)))) (.cells #[.int .i64 d.k, .int .i64 ((x1 : Int) + (A.length : Nat)), .int .i64 (d.b), .slice nva d.xs.length nvc] 78))) (by simp [Value.oneCell']) (by decide) (by unfold maxLen; omega) (by omega) (by simp [World.setCell]; omega) _ rfl ?_; intro g8 c8 w8 hown8 hgrow8 _ _; have hG8 := hpush _ _ hown8 hgrow8; have hO8 := (hOs.keep (bl1 _ (.cells #[.int .i64 d.k, .int .i64 ((x1 : Int) + (A.length : Nat)), .int .i64 (d.b), .slice nva d.xs.length nvc] 78))).grown hgrow8 (hG7.apart1 (hOs.keep (bl1 _ (.cells #[.int .i64 d.k, .int .i64 ((x1 : Int) + (A.length : Nat)), .int .i64 (d.b), .slice nva d.xs.length nvc] 78)))); have o8 := hO8.cell; have f8 := hO8.frozen))
          have hb9 : Below w3.heap.size w3 (w8.setCell ⟨g, 0, none⟩ (.slice (some ⟨g8, 0, none⟩) (A.length + m + 1) c8)) := Below.setCell ((hbw.trans (hb8.mono hsz)).grown hgrow8 (by simp [World.setCell]; omega) (fun r hr => (hG7.block r hr).1)) hg4 _
          go_roundw
          case rel => exact ⟨m + 1, _, by omega, by go_num, Bl1.set hO8 _, by rw [HT.out]; exact hG8.set1 hO8 _, hb9⟩
          case measure => simp [intOf]; omega
        · obtain ⟨x1, hx1, hx1k⟩ := a_in hok (by rw [hK]; omega)
          obtain ⟨x2, hx2, hx2k⟩ := b_in hok hK
          have HT := Lib.hid (sh_next (M := A) hlt Hd.out (shN2 (n := A.length) hK hx1 hx2))
          have HR2 := Lib.hid (fun W => rule_of (k := d.k) (K := 2) hK hkd W)
          rw [hx1] at c1
          rw [hx2] at c2
          clear hok hkd hK
          go_wp2_with (first | (go_at_call 73; refine (Calls.mono (by exact HR2.out _) ?_); rintro e w5 ⟨rfl, hb6⟩; have hz6 := hb6.size; simp at hz6; have hB5 : Bl4 w5 wr.heap.size (.int .i64 d.k) (.int .i64 ((x1 : Nat))) (.int .i64 ((x2 : Nat))) (.slice nva d.xs.length nvc) := Bl4.below (heap_alloc_new wr (.cells #[.int .i64 d.k, .int .i64 ((x1 : Nat)), .int .i64 ((x2 : Nat)), .slice nva d.xs.length nvc] 78)) hb6 (by simp); have hB6 : Bl4 (w5.alloc (.cells #[.int .i64 (cntK d.k : Nat), .int .i64 2, .bool (axK d.k), .int .i64 (sgK d.k : Nat)] 93)) wr.heap.size (.int .i64 d.k) (.int .i64 ((x1 : Nat))) (.int .i64 ((x2 : Nat))) (.slice nva d.xs.length nvc) := Bl4.below hB5 (bl1 w5 _) (by omega); obtain ⟨r0, r1, r2, r3⟩ := hB6.cells; have f0 := hB6.frozen 0; have f1 := hB6.frozen 1; have f2 := hB6.frozen 2; have f3 := hB6.frozen 3; obtain ⟨q0, q1, q2⟩ := box4c w5 (.int .i64 (cntK d.k : Nat)) (.int .i64 2) (.bool (axK d.k)) (.int .i64 (sgK d.k : Nat)) 93; have q1' := cellfar q1 (u := wr.heap.size) (by omega) 1 (.int .i64 ((x1 : Int) + (A.length : Nat))); have hbx : Below wr.heap.size wr (w5.alloc (.cells #[.int .i64 (cntK d.k : Nat), .int .i64 2, .bool (axK d.k), .int .i64 (sgK d.k : Nat)] 93)) := (bl1 wr (.cells #[.int .i64 d.k, .int .i64 ((x1 : Nat)), .int .i64 ((x2 : Nat)), .slice nva d.xs.length nvc] 78)).trans ((bl_alloc hb6 (.cells #[.int .i64 (cntK d.k : Nat), .int .i64 2, .bool (axK d.k), .int .i64 (sgK d.k : Nat)] 93)).mono (by simp)); have hOs : Bl1 (((w5.alloc (.cells #[.int .i64 (cntK d.k : Nat), .int .i64 2, .bool (axK d.k), .int .i64 (sgK d.k : Nat)] 93)).setCell ⟨wr.heap.size, 1, none⟩ (.int .i64 ((x1 : Int) + (A.length : Nat)))).setCell ⟨wr.heap.size, 2, none⟩ (.int .i64 ((x2 : Int) + (A.length : Nat)))) g _ := (((HO.out.keep hbx).far (p := ⟨wr.heap.size, 1, none⟩) (by show g ≠ wr.heap.size; omega) (.int .i64 ((x1 : Int) + (A.length : Nat)))).far (p := ⟨wr.heap.size, 2, none⟩) (by show g ≠ wr.heap.size; omega) (.int .i64 ((x2 : Int) + (A.length : Nat)))); have o6 := hOs.cell) | (at_builtin; have hb8 : Below wr.heap.size wr ((((w5.alloc (.cells #[.int .i64 (cntK d.k : Nat), .int .i64 2, .bool (axK d.k), .int .i64 (sgK d.k : Nat)] 93)).setCell ⟨wr.heap.size, 1, none⟩ (.int .i64 ((x1 : Int) + (A.length : Nat)))).setCell ⟨wr.heap.size, 2, none⟩ (.int .i64 ((x2 : Int) + (A.length : Nat)))).alloc (.cells #[.int .i64 d.k, .int .i64 ((x1 : Int) + (A.length : Nat)), .int .i64 ((x2 : Int) + (A.length : Nat)), .slice nva d.xs.length nvc] 78)) := bl_alloc (bl_set (bl_set hbx (Nat.le_refl _) _) (Nat.le_refl _) _) _; have hG7 := HG.out.keep hb8; obtain ⟨xs5, hrow, hpush⟩ := hG7.push (d := ⟨d.k, (x1 : Int) + (A.length : Nat), (x2 : Int) + (A.length : Nat), d.xs⟩) (HNV.out.keep hb8); rw [HLK.out] at hrow hpush; refine wpList_append_lies _ rfl (.tmp 76) (.tmp 78) 24 rfl w3.heap.size 78 j0 _ 4 48 Try.underlying24 hj hy0 hy1 hy2 rfl (by decide) (.slice v1 (A.length + m) v2) (A.length + m) xs5 rfl hrow ⟨w5.heap.size + 1, 0, none⟩ 1 1 [.int .i64 d.k, .int .i64 ((x1 : Int) + (A.length : Nat)), .int .i64 ((x2 : Int) + (A.length : Nat)), .slice nva d.xs.length nvc] rfl rfl (news4 (by simpa [World.setCell] using heap_alloc_new (((w5.alloc (.cells #[.int .i64 (cntK d.k : Nat), .int .i64 2, .bool (axK d.k), .int .i64 (sgK d.k : Nat)] 93)).setCell ⟨wr.heap.size, 1, none⟩ (.int .i64 ((x1 : Int) + (A.length : Nat)))).setCell ⟨wr.heap.size, 2, none⟩ (.int .i64 ((x2 : Int) + (A.length : Nat)))) (.cells #[.int .i64 d.k, .int .i64 ((x1 : Int) + (A.length : Nat)), .int .i64 ((x2 : Int) + (A.length : Nat)), .slice nva d.xs.length nvc] 78))) (by simp [Value.oneCell']) (by decide) (by unfold maxLen; omega) (by omega) (by simp [World.setCell]; omega) _ rfl ?_; intro g8 c8 w8 hown8 hgrow8 _ _; have hG8 := hpush _ _ hown8 hgrow8; have hO8 := (hOs.keep (bl1 _ (.cells #[.int .i64 d.k, .int .i64 ((x1 : Int) + (A.length : Nat)), .int .i64 ((x2 : Int) + (A.length : Nat)), .slice nva d.xs.length nvc] 78))).grown hgrow8 (hG7.apart1 (hOs.keep (bl1 _ (.cells #[.int .i64 d.k, .int .i64 ((x1 : Int) + (A.length : Nat)), .int .i64 ((x2 : Int) + (A.length : Nat)), .slice nva d.xs.length nvc] 78)))); have o8 := hO8.cell; have f8 := hO8.frozen))
          have hb9 : Below w3.heap.size w3 (w8.setCell ⟨g, 0, none⟩ (.slice (some ⟨g8, 0, none⟩) (A.length + m + 1) c8)) := Below.setCell ((hbw.trans (hb8.mono hsz)).grown hgrow8 (by simp [World.setCell]; omega) (fun r hr => (hG7.block r hr).1)) hg4 _
          go_roundw
          case rel => exact ⟨m + 1, _, by omega, by go_num, Bl1.set hO8 _, by rw [HT.out]; exact hG8.set1 hO8 _, hb9⟩
          case measure => simp [intOf]; omega
      · obtain rfl : m = B.length := by omega
        rw [List.take_length] at hG
        obtain ⟨C, hC⟩ : ∃ C, A ++ B.map (shN A.length) = C := ⟨_, rfl⟩
        have hCl : C.length ≤ 32 := by rw [← hC]; simp; omega
        have HN2 := Lib.hid (show L' = C ++ [⟨k, (A.length : Int) - 1, ((C.length : Nat) : Int) - 1, xs⟩] by rw [← hC]; exact HN.out)
        rw [hC] at hG
        obtain ⟨a6, n6, hv⟩ := hG.form
        subst hv
        have e5 := bl_call e3 hbw
        have hbn := bl1 wr.drew (.cells #[.int .i64 k, .int .i64 ((A.length : Int) - 1), .int .i64 (((C.length : Nat) : Int) - 1), .slice au xs.length cu] 78)
        have hGd : GathN wr.drew w3.heap.size (.slice a6 C.length n6) C := hG
        have hUd : NumV wr.drew (.slice au xs.length cu) xs := HU.out.keep (bl_drew e5)
        have hOd : Bl1 wr.drew g (.slice a6 C.length n6) := hO
        have hC0 := HC3.out.keep hbw
        have hCd : Bl1 wr.drew (w.heap.size + 1 + 1) (.slice none 0 0) := hC0
        have hGn := hGd.keep hbn
        have hUn := hUd.keep hbn
        have hOn := hOd.keep hbn
        have hCn := hCd.keep hbn
        have y1 : wr.drew.cell? ⟨w.heap.size, 0, none⟩ = some (.slice aa A.length ca) := (XA3.out.keep hbw).cell
        have y2 := hOd.cell
        have o4 := hO.cell
        have on := hOn.cell
        have on' : (wr.alloc (.cells #[.int .i64 k, .int .i64 ((A.length : Int) - 1), .int .i64 (((C.length : Nat) : Int) - 1), .slice au xs.length cu] 78)).drew.cell? ⟨g, 0, none⟩ = some (.slice a6 C.length n6) := on
        obtain ⟨xs5, hrow, hpush⟩ := hGn.push (d := ⟨k, (A.length : Int) - 1, ((C.length : Nat) : Int) - 1, xs⟩) hUn
        have HGn := Lib.hid hGn
        have HOn := Lib.hid hOn
        have HCn := Lib.hid hCn
        have hsz := hbw.size
        clear hG hO hGd hUd hOd hCd hGn hUn hOn hCn hC0 hC
        go_wp2_with fail
        go_region_law (first | (refine step_append_lies _ rfl (.tmp 83) (.tmp 89) 24 rfl w3.heap.size 78 j0 _ 4 48 Try.underlying24 hj hy0 hy1 hy2 rfl (by decide) (.slice a6 C.length n6) C.length _ (by simp [Act.eval]) hrow ⟨wr.heap.size, 0, none⟩ 1 1 [.int .i64 k, .int .i64 ((A.length : Int) - 1), .int .i64 (((C.length : Nat) : Int) - 1), .slice au xs.length cu] (by simp [Act.eval]) rfl (news4 (heap_alloc_new _ _)) (by simp [Value.oneCell']) (by decide) (by unfold maxLen; omega) (by omega) (by simp; omega) _ rfl ?_; intro g7 c7 w7 hown7 hgrow7 _ _; have hG7 := hpush _ _ hown7 hgrow7; have hO7 := HOn.out.grown hgrow7 (HGn.out.apart1 HOn.out); have o7 := hO7.cell; have f7 := hO7.frozen; clear hown7) | (go_simp; go_at_call 69; refine (Calls.mono (by exact last_any g a6 C.length n6 _ y2 (by omega)) ?_); rintro e w' ⟨rfl, he⟩; subst w') | (go_simp; go_at_call 69; refine (Calls.mono (by exact last_any w.heap.size aa A.length ca _ y1 (by omega)) ?_); rintro e w' ⟨rfl, he⟩; subst w'))
        all_goals have hG8 := hG7.set1 hO7 (.slice (some ⟨g7, 0, none⟩) (C.length + 1) c7)
        all_goals have hC8 := ((HCn.out).grown hgrow7 (HGn.out.apart1 HCn.out)).far (p := ⟨g, 0, none⟩) (by show w.heap.size + 1 + 1 ≠ g; omega) (.slice (some ⟨g7, 0, none⟩) (C.length + 1) c7)
        all_goals have b7 : Below w.heap.size w w7 := (bl_alloc (bl_drew e5) _).grown hgrow7 (by have := e5.size; simp; omega) (fun r hr => by have := (HGn.out.block r hr).1; omega)
        all_goals have b8 := bl_set b7 (a := ⟨g, 0, none⟩) (by show w.heap.size ≤ g; omega) (.slice (some ⟨g7, 0, none⟩) (C.length + 1) c7)
        all_goals have HN8 := Lib.hid hG8.nodes
        all_goals have HC8 := Lib.hid hC8
        all_goals have o8 := (Bl1.set hO7 (.slice (some ⟨g7, 0, none⟩) (C.length + 1) c7)).cell
        all_goals clear hG8 hG7 hO7 f7 hC8
        all_goals go_wp2_with (go_at_call 52; refine (Calls.mono (by exact HT.out _ _ (by rw [HN2.out]; exact HN8.out)) ?_); rintro e w9 ⟨u9, rfl, hu9, hb9⟩; obtain ⟨a9, n9, hu9'⟩ := hu9.form; subst hu9'; have hC9 := HC8.out.keep hb9; have r0 := hC9.cell; have fr := hC9.frozen)
        all_goals refine bodyPost_ret (results_shape rfl _ _ (w.heap.size + 1 + 1) _ rfl (Bl1.set hC9 _)) rfl ?_
        all_goals refine ⟨_, rfl, OwnSh.mono (hu9.low (p := ⟨w.heap.size + 1 + 1, 0, none⟩) (by show w.heap.size + 1 + 1 < _; have := World.block_lt_of_cell? _ _ HC8.out.cell; exact this) _) b8.size (by simp [World.setCell]) (Nat.le_refl _), bl_set (bl_call b8 hb9) (by show _ ≤ w.heap.size + 1 + 1; omega) _⟩
end Go.Proofs.Ytpbccoobkmahlaa
