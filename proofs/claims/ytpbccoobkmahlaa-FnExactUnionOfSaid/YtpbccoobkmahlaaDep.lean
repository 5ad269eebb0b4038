/- How deep a shape is, as both sides reckon it. No conditions but bounds. -/
import Derived.Test.YtpbccoobkmahlaaIsI
namespace Go.Proofs.Ytpbccoobkmahlaa
open Go.Fl Go.RowKit

theorem grown_below {w w' w0 : World} {base : Nat} {e : TypeId} {size n : Nat} {v : Value} {xs : List Value} (hb : Below w0.heap.size w0 w) (h : w.ownsRow base e size v n xs) (hbase : w0.heap.size ≤ base) (hg : w.grownBy w' v.ownBlock) : Below w0.heap.size w0 w' :=
  hb.grown hg hb.size (fun k hk => Nat.le_trans hbase (h.lt k hk).1)
theorem new1 (w : World) (u : Value) (t : TypeId) : ∀ (j : Nat) (x : Value), [u][j]? = some x → (w.alloc (.cells #[u] t)).cell? ((⟨w.heap.size, 0, none⟩ : Addr).add j) = some x := by
  intro j x hj
  match j, hj with
  | 0, hj => simp at hj; subst hj; simp [Addr.add]
theorem one1 {u : Value} (h : u.oneCell' = true) : ∀ x ∈ [u], x.oneCell' = true := by
  intro x hx; simp at hx; subst hx; exact h
def pmx (D : List Nat) (d : Nd) (m : Nat) : Nat := (List.range m).foldl (fun p j => max p (D.getD (kd d j).toNat 0)) 0
theorem pmx_zero (D : List Nat) (d : Nd) : pmx D d 0 = 0 := rfl
theorem pmx_succ {D : List Nat} {d : Nd} {m A : Nat} (h : kd d m = (A : Nat)) : pmx D d (m + 1) = max (pmx D d m) (D.getD A 0) := by
  simp [pmx, List.range_succ, h]
theorem getD_le {D : List Nat} {b : Nat} (h : ∀ x ∈ D, x ≤ b) (A : Nat) : D.getD A 0 ≤ b := by
  by_cases hA : A < D.length
  · rw [show D.getD A 0 = D[A] by simp [hA]]; exact h _ (List.getElem_mem hA)
  · rw [show D.getD A 0 = 0 by simp [List.getD, Nat.le_of_not_lt hA]]; omega
theorem pmx_le {D : List Nat} {d : Nd} {b : Nat} (h : ∀ x ∈ D, x ≤ b) : ∀ m, pmx D d m ≤ b
  | 0 => by rw [pmx_zero]; omega
  | m + 1 => by
    have e : pmx D d (m + 1) = max (pmx D d m) (D.getD (kd d m).toNat 0) := by simp [pmx, List.range_succ]
    have := pmx_le (d := d) h m
    have := getD_le h (kd d m).toNat
    omega
def deps (L : List Nd) : Nat → List Nat
  | 0 => []
  | k + 1 => deps L k ++ [pmx (deps L k) (at_ L k) (kidsK (at_ L k).k) + 1]
theorem deps_len (L : List Nd) : ∀ k, (deps L k).length = k
  | 0 => rfl
  | k + 1 => by simp [deps, deps_len L k]
theorem deps_le (L : List Nd) : ∀ k, ∀ x ∈ deps L k, x ≤ k
  | 0, x, h => by simp [deps] at h
  | k + 1, x, h => by
    simp only [deps, List.mem_append, List.mem_singleton] at h
    rcases h with h | h
    · have := deps_le L k x h; omega
    · have := pmx_le (d := at_ L k) (deps_le L k) (kidsK (at_ L k).k); omega
theorem deps_succ {L : List Nd} {k K p : Nat} {d : Nd} (hd : at_ L k = d) (hK : kidsK d.k = K) (hp : pmx (deps L k) d K = p) : deps L (k + 1) = deps L k ++ [p + 1] := by
  simp [deps, hd, hK, hp]
def rowD (n k : Nat) (D : List Nat) (p : Nat) : List Value := (List.range n).map fun j => .int .i64 ((if j < k then D.getD j 0 else if j = k then p else 0 : Nat) : Int)
theorem rowD_zero (n : Nat) : (madeCells (Value.int .i64 0).cells (n * 1)).toList = rowD n 0 [] 0 := by
  refine List.ext_getElem (by simp [madeCells, rowD]) fun i h1 h2 => ?_
  simp [madeCells, Value.cells, Nat.mod_one, rowD]
theorem rowD_at {n k p : Nat} (D : List Nat) (h : k < n) : (rowD n k D p)[k]? = some (.int .i64 ((p : Nat) : Int)) := by simp [rowD, h]
theorem rowD_below {n k p A : Nat} (D : List Nat) (h : A < k) (hn : k < n) : (rowD n k D p)[A]? = some (.int .i64 ((D.getD A 0 : Nat) : Int)) := by simp [rowD, h, Nat.lt_trans h hn]
theorem rowD_set {n k p q : Nat} (D : List Nat) : (rowD n k D p).set k (.int .i64 ((q : Nat) : Int)) = rowD n k D q := by
  refine List.ext_getElem (by simp [rowD]) fun i h1 h2 => ?_
  simp only [rowD, List.getElem_set, List.getElem_map, List.getElem_range]
  by_cases h : k = i
  · subst h; simp
  · rw [if_neg h]
    have h' : ¬ i = k := fun e => h e.symm
    simp [h']
theorem rowD_next {n k p : Nat} {D : List Nat} (hD : D.length = k) : rowD n k D p = rowD n (k + 1) (D ++ [p]) 0 := by
  refine List.ext_getElem (by simp [rowD]) fun i h1 h2 => ?_
  simp only [rowD, List.getElem_map, List.getElem_range, Value.int.injEq, true_and]
  congr 1
  rcases Nat.lt_trichotomy i k with h | h | h
  · rw [if_pos h, if_pos (by omega), List.getD, List.getD, List.getElem?_append_left (by omega)]
  · subst h
    rw [if_neg (by omega), if_pos rfl, if_pos (by omega), List.getD, List.getElem?_append_right (by omega), hD]
    simp
  · rw [if_neg (by omega), if_neg (by omega), if_neg (by omega)]
    simp
theorem rowD_end {n p x : Nat} {D : List Nat} (h : n - 1 < n) (hx : D.getD (n - 1) 0 = x) : (rowD n n D p)[n - 1]? = some (.int .i64 ((x : Nat) : Int)) := by
  subst hx; simp [rowD, h]
def depV (L : List Nd) : Nat := if valid L = true then (deps L L.length).getD (L.length - 1) 0 else 0
def DOut (w : World) (L : List Nd) : Ending → World → Prop := fun e w' => e = .returned (.tuple #[.int .i64 ((depV L : Nat) : Int), .bool (valid L)]) ∧ Below w.heap.size w w'
theorem DOut_no {w w' : World} {L : List Nd} (h : valid L = false) (hb : Below w.heap.size w w') : DOut w L (.returned (.tuple #[.int .i64 0, .bool false])) w' := by
  unfold DOut depV; rw [h]; exact ⟨rfl, hb⟩
theorem DOut_yes {w w' : World} {L : List Nd} {x : Nat} (h : valid L = true) (hx : (deps L L.length).getD (L.length - 1) 0 = x) (hb : Below w.heap.size w w') : DOut w L (.returned (.tuple #[.int .i64 ((x : Nat) : Int), .bool true])) w' := by
  unfold DOut depV; rw [h, if_pos rfl, hx]; exact ⟨rfl, hb⟩
theorem ValidShape_at {L : List Nd} {b : Bool} (h0 : valid L = b) (v : Value) (w : World) (h : NodesIn w v L) (hm : Mod L) : Calls Try.prog 27 #[.agg #[v]] w (BB w b) := by
  subst h0; exact ValidShape_any v L w h hm
theorem l02Is_at {L : List Nd} {r : Bool} (h0 : valid L = r) (b o : Nat) (v : Value) (w : World) (hcell : w.cell? ⟨b, o, none⟩ = some v) (h : NodesIn w v L) (hm : Mod L) : Calls Try.prog 49 #[.pointer (some ⟨b, o, none⟩)] w (BB w r) := by
  subst h0; exact l02Is_any b o v L w hcell h hm
theorem valid_ok {L : List Nd} (h : valid L = true) {k : Nat} (hk : k < L.length) : okNd k (at_ L k) = true := okTo_at (valid_parts h).2.2.1 hk
theorem valid_kid {L : List Nd} (h : valid L = true) {k m : Nat} {d : Nd} (hk : k < L.length) (hd : at_ L k = d) (hm : m < kidsK d.k) : ∃ A : Nat, kd d m = (A : Nat) ∧ A < k := by
  have hok := valid_ok h hk
  rw [hd] at hok
  have := kids_in hok (kd d m) (by rw [kidsOf_is]; exact List.mem_map.2 ⟨m, List.mem_range.2 hm, rfl⟩)
  exact ⟨(kd d m).toNat, by omega, by omega⟩
/-- One store into the row of depths. -/
theorem bumpD {w : World} {B u n cap k p : Nat} {e : TypeId} {D : List Nat} (h : w.ownsRow B e 1 (.slice (some ⟨u, 0, none⟩) n cap) n (rowD n k D p)) (hk : k < n) :
    w.cell? ⟨u, k, none⟩ = some (.int .i64 (p : Nat)) ∧ w.frozen? ⟨u, k, none⟩ = false ∧ (∀ q : Nat, (w.setCell ⟨u, k, none⟩ (.int .i64 (q : Nat))).ownsRow B e 1 (.slice (some ⟨u, 0, none⟩) n cap) n (rowD n k D q)) := by
  refine ⟨(h.cellAt k (by omega)).trans (rowD_at D hk), h.frozenAt k, fun q => ?_⟩
  have := (h.stored k (.int .i64 (q : Nat))).1
  rwa [rowD_set D] at this
theorem last_any (b : Nat) (a : Option Addr) (n cap : Nat) (w : World) (h : w.cell? ⟨b, 0, none⟩ = some (.slice a n cap)) (hn : n ≤ 1048576) : Calls Try.prog 69 #[.pointer (some ⟨b, 0, none⟩)] w fun e w' => e = .returned (.int .i64 ((n : Nat) - 1 : Int)) ∧ w' = w := by
  go_enter Try.func69, Try.ntmps69
  go_wp2
  go_ret
  exact ⟨rfl, rfl⟩
set_option maxHeartbeats 8000000 in
set_option maxRecDepth 100000 in
theorem DepthOf_any (v : Value) (L : List Nd) (w : World) (h : NodesIn w v L) (hm : Mod L) : Calls Try.prog 29 #[.agg #[v]] w (DOut w L) := by
  obtain ⟨i0, hi, hz0, hz1, hz2⟩ := info_parts info_i64
  obtain ⟨av, cv, rfl, _⟩ := id h
  have H := Lib.hid h
  have HM := Lib.hid hm
  have hlm := hm.1
  have hb0 := bl1 w (.cells #[.slice av L.length cv] 26)
  have hbx := box1 w (.slice av L.length cv) 26
  clear h hm
  cases hV : valid L
  · have HV := Lib.hid hV
    have HC := Lib.hid (fun W hW => ValidShape_at hV (.slice av L.length cv) W hW HM.out)
    clear hV
    go_enter Try.func29, Try.ntmps29
    go_wp2_with (go_at_call 27; refine (Calls.mono (by exact HC.out _ (H.out.keep hb0)) ?_); rintro e w1 ⟨rfl, hb1⟩)
    go_ret2
    exact DOut_no HV.out (bl_call hb0 hb1)
  · have HV := Lib.hid hV
    have HC := Lib.hid (fun W hW => ValidShape_at hV (.slice av L.length cv) W hW HM.out)
    have hlen := valid_parts hV
    have hn1 := hlen.1
    have hn2 := hlen.2.1
    have hb2 : i0.bytes * L.length ≤ 281474976710656 := by rw [hz2]; omega
    have hb3 : L.length ≤ maxLen := by unfold maxLen; omega
    clear hV hlen
    go_enter Try.func29, Try.ntmps29
    go_wp2_with (first | (go_at_call 27; refine (Calls.mono (by exact HC.out _ (H.out.keep hb0)) ?_); rintro e w1 ⟨rfl, hb1⟩; have hbx1 := cellk hbx hb1; have e1 := bl_call hb0 hb1; have hsz := e1.size) | (at_make; refine wpList_make_full _ rfl _ _ 52 rfl w.heap.size 2 i0 (.int .i64 0) 1 Try.underlying52 hi hz0 hz1 .i64 .i64 _ _ L.length rfl rfl rfl rfl hb2 hb3 hsz ?_; intro w2 hown hgrow; have hbx2 := cellk hbx1 (hbl0_below hgrow)))
    rw [rowD_zero] at hown
    have e2 := bl_call e1 (hbl0_below hgrow)
    have hu1 : w.heap.size < w1.heap.size := Nat.lt_of_lt_of_le (by simp) hb1.size
    clear hgrow hb0 hb1 hbx hbx1 e1 hsz HC
    obtain ⟨u, hu⟩ : ∃ u, w1.heap.size = u := ⟨_, rfl⟩
    rw [hu] at hown hu1 ⊢
    clear hu
    go_loopw [18] (fun i wr => ∃ k : Nat, k ≤ L.length ∧ i = .int .i64 k ∧ wr.ownsRow w.heap.size 2 1 (.slice (some ⟨u, 0, none⟩) L.length L.length) L.length (rowD L.length k (deps L k) 0) ∧ Below w.heap.size w wr ∧ wr.cell? ⟨w.heap.size, 0, none⟩ = some (.slice av L.length cv)) (fun i _ => L.length - (intOf i).toNat)
    case atStart => exact ⟨0, Nat.zero_le _, rfl, hown, e2, hbx2⟩
    case round =>
      clear hown e2 hbx2
      obtain ⟨k, hk, rfl, hown, hbw, hbx⟩ := hrel
      by_cases hlt : k < L.length
      · obtain ⟨g, p, rfl, hg, hNd⟩ := (H.out.keep hbw).at_ hlt
        obtain ⟨d, hd⟩ : ∃ d, at_ L k = d := ⟨_, rfl⟩
        have hNd2 : NdAt wr g (p + k * 4) d := by rw [← hd]; exact hNd
        clear hNd
        obtain ⟨D, hD⟩ : ∃ D, deps L k = D := ⟨_, rfl⟩
        have hDl : D.length = k := by rw [← hD]; exact deps_len L k
        have hDb : ∀ x ∈ D, x ≤ k := by rw [← hD]; exact deps_le L k
        have HDb := Lib.hid hDb
        have HDl := Lib.hid hDl
        have HN2 := Lib.hid hNd2
        have Hd := Lib.hid hd
        have HD := Lib.hid hD
        rw [hD] at hown
        have hug := (hown.lt u rfl).2
        clear hDb hDl hNd2 hd hD
        go_wp2_with fail
        refine (childrenOf_any g (p + k * 4) d _ HN2.out).mono ?_
        rintro e w9 ⟨q, rfl, hq, hb9⟩
        have hown9 := own_keep hown hb9
        have hbw9 := bl_call hbw hb9
        have hbx9 := cellk hbx hb9
        have hsq : u < q := Nat.lt_of_lt_of_le hug hq.1
        have hkc := hq.2
        have hK2 := kids_le d.k
        obtain ⟨K, hK⟩ : ∃ K, kidsK d.k = K := ⟨_, rfl⟩
        rw [hK] at hK2 ⊢
        have HKK := Lib.hid hK
        clear hK hq hb9 hown hug
        go_wp2_with fail
        go_loopw [27] (fun i wi => ∃ m : Nat, m ≤ K ∧ i = .int .i64 m ∧ wi.ownsRow w.heap.size 2 1 (.slice (some ⟨u, 0, none⟩) L.length L.length) L.length (rowD L.length k D (pmx D d m)) ∧ Below w.heap.size w wi ∧ wi.cell? ⟨w.heap.size, 0, none⟩ = some (.slice (some ⟨g, p, none⟩) L.length cv) ∧ wi.cell? ⟨q, 0, none⟩ = some (.int .i64 d.a) ∧ wi.cell? ⟨q, 1, none⟩ = some (.int .i64 d.b)) (fun i _ => K - (intOf i).toNat)
        case atStart => exact ⟨0, Nat.zero_le _, rfl, hown9, hbw9, hbx9, hkc.1, hkc.2⟩
        case round =>
          clear hown9 hbw9 hbx9 hkc hbw hbx
          obtain ⟨m, hm, rfl, hown, hbw, hbx, ha, hb⟩ := hrel
          have hpb : pmx D d m ≤ k := pmx_le HDb.out m
          by_cases hlm : m < K
          · have hcell := kd_cell ⟨ha, hb⟩ (show m < kidsK d.k by rw [HKK.out]; exact hlm)
            obtain ⟨A, hA, hAk⟩ := valid_kid HV.out hlt Hd.out (show m < kidsK d.k by rw [HKK.out]; exact hlm)
            have hps := pmx_succ (D := D) hA
            rw [hA] at hcell
            have hcA := (hown.cellAt A (by omega)).trans (rowD_below D hAk hlt)
            have hqb : D.getD A 0 ≤ k := getD_le HDb.out A
            obtain ⟨x, hx⟩ : ∃ x, D.getD A 0 = x := ⟨_, rfl⟩
            obtain ⟨y, hy⟩ : ∃ y, pmx D d m = y := ⟨_, rfl⟩
            rw [hx] at hcA hqb hps
            rw [hy] at hown hps hpb
            obtain ⟨hd1, hf1, hst⟩ := bumpD hown hlt
            have Hps := Lib.hid hps
            clear hA hps hx hy hown
            by_cases hxy : y < x
            · have hst2 := hst x
              rw [show rowD L.length k D x = rowD L.length k D (pmx D d (m + 1)) by rw [Hps.out, show max y x = x by omega]] at hst2
              have hxi : (y : Int) < x := by omega
              have k0 := cellfar hbx (show u ≠ w.heap.size by omega) k (.int .i64 (x : Nat))
              have k1 := cellfar ha (show u ≠ q by omega) k (.int .i64 (x : Nat))
              have k2 := cellfar hb (show u ≠ q by omega) k (.int .i64 (x : Nat))
              clear hst ha hb hbx
              go_wp2_with fail
              go_region
              all_goals (go_wp2_with fail; go_roundw)
              case rel => exact ⟨m + 1, by omega, by go_num, hst2, bl_drew (bl_set hbw (by show w.heap.size ≤ u; omega) _), k0, k1, k2⟩
              case measure => simp [intOf]; omega
            · have hst2 := hst y
              rw [show rowD L.length k D y = rowD L.length k D (pmx D d (m + 1)) by rw [Hps.out, show max y x = y by omega]] at hst2
              have hxi : (x : Int) ≤ y := by omega
              have k0 := cellfar hbx (show u ≠ w.heap.size by omega) k (.int .i64 (y : Nat))
              have k1 := cellfar ha (show u ≠ q by omega) k (.int .i64 (y : Nat))
              have k2 := cellfar hb (show u ≠ q by omega) k (.int .i64 (y : Nat))
              clear hst ha hb hbx
              go_wp2_with fail
              go_region
              all_goals (go_wp2_with fail; go_roundw)
              case rel => exact ⟨m + 1, by omega, by go_num, hst2, bl_drew (bl_set hbw (by show w.heap.size ≤ u; omega) _), k0, k1, k2⟩
              case measure => simp [intOf]; omega
          · obtain rfl : m = K := by omega
            obtain ⟨y, hy⟩ : ∃ y, pmx D d m = y := ⟨_, rfl⟩
            rw [hy] at hown hpb
            have Hn := Lib.hid (deps_succ (p := y) Hd.out HKK.out (by rw [HD.out]; exact hy))
            clear hy ha hb hlm
            obtain ⟨hd1, hf1, hst⟩ := bumpD hown hlt
            have hst2 := hst (y + 1)
            rw [rowD_next HDl.out, ← HD.out, ← Hn.out] at hst2
            have k0 := cellfar hbx (show u ≠ w.heap.size by omega) k (.int .i64 ((y + 1 : Nat) : Int))
            have k0' := cellfar hbx (show u ≠ w.heap.size by omega) k (.int .i64 ((y : Nat) + 1 : Int))
            clear hst hown
            go_wp2_with fail
            go_roundw
            case rel => exact ⟨k + 1, by omega, by go_num, hst2, bl_set hbw (by show w.heap.size ≤ u; omega) _, k0⟩
            case measure => simp [intOf]; omega
      · obtain rfl : k = L.length := by omega
        have hD := deps_len L L.length
        obtain ⟨x, hx⟩ : ∃ x, (deps L L.length).getD (L.length - 1) 0 = x := ⟨_, rfl⟩
        have hd1 := (hown.cellAt (L.length - 1) (by omega)).trans (rowD_end (by omega) hx)
        have HX := Lib.hid hx
        have hn3 : ((L.length : Int) - 1) = ((L.length - 1 : Nat) : Int) := by omega
        have hn4 : ((L.length - 1 : Nat) : Int) < L.length := by omega
        have HLa := Lib.hid (last_any w.heap.size av L.length cv wr hbx (by omega))
        clear hx hD hown hlt
        go_wp2_with (go_at_call 69; refine (Calls.mono (by exact HLa.out) ?_); rintro e w' ⟨rfl, rfl⟩)
        go_ret2
        exact DOut_yes HV.out HX.out hbw
end Go.Proofs.Ytpbccoobkmahlaa
