/- Numbers read from their hexadecimal digits. No conditions but a bound on the length. -/
import Derived.Test.YtncmpbgekmaoeaaDoorRList
import Derived.Test.YtncmpbgekmaoeaaDoorSl
namespace Go.Proofs.YtncmpbgekmaoeaaDoor
open Go.Fl Go.RowKit

def okH (n : Nat) : Bool := (decide (48 ≤ n) && decide (n ≤ 57)) || (decide (97 ≤ n) && decide (n ≤ 102))
def hv (n : Nat) : Nat := if n ≤ 57 then n - 48 else n - 87
def hexs : ByteArray := ⟨#[48, 49, 50, 51, 52, 53, 54, 55, 56, 57, 97, 98, 99, 100, 101, 102]⟩
theorem idx_fin : ∀ n : Fin 256, Lib.indexByte hexs.data.toList (UInt8.ofNat n.val) = if okH n.val then (hv n.val : Int) else -1 := by decide +kernel
theorem idx_ok {n : Nat} (hn : n < 256) (h : okH n = true) : Lib.indexByte hexs.data.toList (n : Int).toNat.toUInt8 = (hv n : Int) := by
  have := idx_fin ⟨n, hn⟩
  rw [if_pos h] at this; exact this
theorem idx_bad {n : Nat} (hn : n < 256) (h : okH n = false) : Lib.indexByte hexs.data.toList (n : Int).toNat.toUInt8 = -1 := by
  have := idx_fin ⟨n, hn⟩
  rw [if_neg (by rw [h]; simp)] at this; exact this
theorem hv_lt {n : Nat} (h : okH n = true) : hv n < 16 := by
  simp only [okH, Bool.or_eq_true, Bool.and_eq_true, decide_eq_true_eq] at h
  unfold hv
  split <;> omega
def hexV (l : List UInt8) : Nat := l.foldl (fun n c => 16 * n + hv c.toNat) 0
def allH (l : List UInt8) : Bool := l.all fun c => okH c.toNat
def rnOk (l : List UInt8) : Bool := decide (l.length = 8) && (allH l && (bitsI (hexV l) == (hexV l : Int)))
theorem hexV_snoc (l : List UInt8) (c : UInt8) : hexV (l ++ [c]) = 16 * hexV l + hv c.toNat := by simp [hexV]
theorem allH_snoc (l : List UInt8) (c : UInt8) : allH (l ++ [c]) = (allH l && okH c.toNat) := by simp [allH]
theorem hexV_take_lt (l : List UInt8) : ∀ k, allH (l.take k) = true → hexV (l.take k) < 16 ^ k
  | 0, _ => by simp [hexV]
  | k + 1, h => by
    by_cases hk : k < l.length
    · rw [List.take_succ_eq_append_getElem hk] at h ⊢
      rw [allH_snoc, Bool.and_eq_true] at h
      have h1 := hexV_take_lt l k h.1
      have h2 := hv_lt h.2
      rw [hexV_snoc, Nat.pow_succ]; omega
    · have e : l.take (k + 1) = l.take k := by rw [List.take_of_length_le (by omega), List.take_of_length_le (by omega)]
      rw [e] at h ⊢
      have := hexV_take_lt l k h
      rw [Nat.pow_succ]; omega
theorem hexV_bd {l : List UInt8} {k : Nat} (hk : k ≤ 8) (h : allH (l.take k) = true) : hexV (l.take k) ≤ 4294967295 := by
  have h1 := hexV_take_lt l k h
  have h2 : 16 ^ k ≤ 16 ^ 8 := Nat.pow_le_pow_right (by omega) hk
  omega
theorem hexV_bd8 {l : List UInt8} (hl : l.length ≤ 8) (h : allH l = true) : hexV l ≤ 4294967295 := by
  have := hexV_bd (l := l) (k := 8) (by omega) (by rw [List.take_of_length_le hl]; exact h)
  rwa [List.take_of_length_le hl] at this
theorem rn_len {l : List UInt8} (h : ¬ l.length = 8) : rnOk l = false := by simp [rnOk, h]
theorem all_false {l : List UInt8} {k : Nat} (hk : k < l.length) (h : okH l[k].toNat = false) : allH l = false := by
  unfold allH
  rw [List.all_eq_false]
  exact ⟨l[k], List.getElem_mem hk, by rw [h]; simp⟩
theorem rn_digit {l : List UInt8} {k : Nat} (hk : k < l.length) (h : okH l[k].toNat = false) : rnOk l = false := by
  simp [rnOk, all_false hk h]
theorem hex_step {s : ByteArray} {k n : Nat} (hk : k < s.size) (h : n = hexV (s.data.toList.take k)) : 16 * n + hv s[k].toNat = hexV (s.data.toList.take (k + 1)) := by
  rw [byte_snoc s k hk, hexV_snoc, ← h]
theorem allH_step {s : ByteArray} {k : Nat} (hk : k < s.size) (h : allH (s.data.toList.take k) = true) (hc : okH s[k].toNat = true) : allH (s.data.toList.take (k + 1)) = true := by
  rw [byte_snoc s k hk, allH_snoc, h, hc]; rfl
theorem rn_all {l : List UInt8} (h8 : l.length = 8) (h : allH l = true) : rnOk l = (bitsI (hexV l) == (hexV l : Int)) := by simp [rnOk, h8, h]
theorem FromBits_small (n : Nat) (hn : n ≤ 4294967295) (w : World) : Calls Tryd.prog 53 #[.int .i64 n] w fun e w' => e = .returned (.tuple #[.float .f32 n, .bool true]) ∧ w = w' := by
  have hB : inB n 0 4294967295 = true := by simp [inB]; omega
  have hT : (n : Int).toNat = n := Int.toNat_natCast n
  go_enter Tryd.func53, Tryd.ntmps53
  go_wp2_with (go_at_call 31; refine (in_any _ _ _ _).mono ?_; rintro e w' ⟨rfl, rfl⟩)
  go_ret2
  exact ⟨rfl, rfl⟩
theorem l01From_small (n : Nat) (hn : n ≤ 4294967295) (w : World) : Calls Tryd.prog 50 #[.int .i64 n] w fun e w' => e = .returned (.float .f32 n) ∧ w = w' := by
  have hT : (n : Int).toNat = n := Int.toNat_natCast n
  go_enter Tryd.func50, Tryd.ntmps50
  go_wp2_with fail
  go_ret
  exact ⟨rfl, rfl⟩
def RN (w : World) (l : List UInt8) : Ending → World → Prop := fun e w' => ∃ x, e = .returned (.tuple #[.float .f32 x, .bool (rnOk l)]) ∧ (rnOk l = true → x = hexV l) ∧ Below w.heap.size w w'
theorem RN_no {w w' : World} {l : List UInt8} {x : Nat} (h : rnOk l = false) (hb : Below w.heap.size w w') : RN w l (.returned (.tuple #[.float .f32 x, .bool false])) w' := ⟨x, by rw [h], (by rw [h]; intro e; cases e), hb⟩
theorem RN_yes {w w' : World} {l : List UInt8} {x : Nat} (h : rnOk l = true) (hx : x = hexV l) (hb : Below w.heap.size w w') : RN w l (.returned (.tuple #[.float .f32 x, .bool true])) w' := ⟨x, by rw [h], fun _ => hx, hb⟩
set_option maxHeartbeats 1000000 in
theorem readNumber_any (s : ByteArray) (hs : s.size ≤ 1048576) (w : World) : Calls Tryd.prog 42 #[.string s] w (RN w s.data.toList) := by
  go_enter Tryd.func42, Tryd.ntmps42
  go_wp2
  go_loop [4, 11] (fun v i => ∃ k n : Nat, k ≤ s.size ∧ k ≤ 8 ∧ i = .int .i64 k ∧ v = .int .i64 n ∧ n ≤ 4294967295 ∧ RowKit.Hid (n = hexV (s.data.toList.take k)) ∧ RowKit.Hid (allH (s.data.toList.take k) = true)) (fun _ i => s.size - (intOf i).toNat)
  case atStart => exact ⟨0, 0, Nat.zero_le _, by omega, rfl, rfl, by omega, Lib.hid rfl, Lib.hid rfl⟩
  case round =>
    obtain ⟨k, n, hk, hk8, rfl, rfl, hn, hval, ha⟩ := hrel
    by_cases hlt : k < s.size
    · have hb : s[k].toNat < 256 := s[k].toNat_lt
      have hI := Lib.hid (fun w => Tryd.strings_IndexByte hexs (s[k].toNat : Int) w)
      cases hc : okH s[k].toNat
      · have HN := Lib.hid (rn_digit (l := s.data.toList) (k := k) (by rw [size_list]; exact hlt) hc)
        have hix := idx_bad hb hc
        rw [hix] at hI
        clear hix hc
        go_wp2_with (go_at_call 52; refine (Calls.mono (by exact hI.out _) ?_); rintro e w' ⟨rfl, rfl⟩)
        go_ret2
        exact RN_no HN.out (bl_refl _)
      · have hix := idx_ok hb hc
        rw [hix] at hI
        have hlt16 := hv_lt hc
        have HA := Lib.hid (allH_step hlt ha.out hc)
        have hst := hex_step hlt hval.out
        clear hix hc
        generalize hv s[k].toNat = d at *
        by_cases h8 : k = 8
        · subst h8
          have HN := Lib.hid (rn_len (l := s.data.toList) (by rw [size_list]; omega))
          clear hst
          go_wp2_with (go_at_call 52; refine (Calls.mono (by exact hI.out _) ?_); rintro e w' ⟨rfl, rfl⟩)
          go_ret2
          exact RN_no HN.out (bl_refl _)
        · have h8' : ((k : Int) == 8) = false := by simp; omega
          have hbd := hexV_bd (l := s.data.toList) (k := k + 1) (by omega) HA.out
          rw [← hst] at hbd
          have HS := Lib.hid hst
          clear hst
          go_wp2_with (go_at_call 52; refine (Calls.mono (by exact hI.out _) ?_); rintro e w' ⟨rfl, rfl⟩)
          go_round
          case rel => exact ⟨k + 1, 16 * n + d, by omega, by omega, by go_num, by go_num, hbd, HS, HA⟩
          case measure => simp [intOf]; omega
    · have hall : allH s.data.toList = true := by have := ha.out; rwa [List.take_of_length_le (by rw [size_list]; omega)] at this
      have hval2 : n = hexV s.data.toList := by have := hval.out; rwa [List.take_of_length_le (by rw [size_list]; omega)] at this
      have Hv := Lib.hid hval2
      by_cases h8 : s.size = 8
      · have hr := rn_all (by rw [size_list]; exact h8) hall
        rw [← hval2] at hr
        have hz : ((s.size : Int) == 8) = true := by rw [h8]; rfl
        cases hq : (bitsI n == (n : Int))
        · rw [hq] at hr
          have HN := Lib.hid hr
          clear hr hall hval2
          go_wp2_with (first | (go_at_call 53; refine (FromBits_small n hn _).mono ?_; rintro e w' ⟨rfl, rfl⟩) | (go_at_call 54; refine (BitsOf_any n (by omega) _).mono ?_; rintro e w' ⟨rfl, m, rfl⟩))
          go_ret2
          exact RN_no HN.out (bl_drewN (bl_refl _) _)
        · rw [hq] at hr
          have HN := Lib.hid hr
          clear hr hall hval2
          go_wp2_with (first | (go_at_call 53; refine (FromBits_small n hn _).mono ?_; rintro e w' ⟨rfl, rfl⟩) | (go_at_call 54; refine (BitsOf_any n (by omega) _).mono ?_; rintro e w' ⟨rfl, m, rfl⟩))
          go_ret2
          exact RN_yes HN.out Hv.out (bl_drewN (bl_refl _) _)
      · have hz : ((s.size : Int) == 8) = false := by simp; omega
        have HN := Lib.hid (rn_len (l := s.data.toList) (by rw [size_list]; exact h8))
        clear hall hval2
        go_wp2_with (first | (go_at_call 53; refine (FromBits_small n hn _).mono ?_; rintro e w' ⟨rfl, rfl⟩) | (go_at_call 54; refine (BitsOf_any n (by omega) _).mono ?_; rintro e w' ⟨rfl, m, rfl⟩))
        go_ret2
        exact RN_no HN.out (bl_refl _)
-- LISTS
def nsOk (P : List (List UInt8)) : Bool := P.all rnOk && decide (P.length ≤ 256)
def nsN (P : List (List UInt8)) : List Nat := if nsOk P = true then P.map hexV else []
def RF (w : World) (P : List (List UInt8)) : Ending → World → Prop := fun e w' => ∃ v, e = .returned (.tuple #[v, .bool (nsOk P)]) ∧ w'.ownsRow w.heap.size 36 1 v (nsN P).length ((nsN P).map (Value.float .f32)) ∧ Below w.heap.size w w'
theorem RF_no {w w' : World} {P : List (List UInt8)} (h : nsOk P = false) (hb : Below w.heap.size w w') : RF w P (.returned (.tuple #[.slice none 0 0, .bool false])) w' := by
  have e : nsN P = [] := by unfold nsN; rw [h]; rfl
  exact ⟨_, by rw [h], by rw [e]; exact World.ownsRow_nil _ _ _ _, hb⟩
theorem RF_yes {w w' : World} {v : Value} {n : Nat} {P : List (List UInt8)} (h : nsOk P = true) (hn : n = P.length) (ho : w'.ownsRow w.heap.size 36 1 v n ((P.map hexV).map (Value.float .f32))) (hb : Below w.heap.size w w') : RF w P (.returned (.tuple #[v, .bool true])) w' := by
  have e : nsN P = P.map hexV := by unfold nsN; rw [if_pos h]
  exact ⟨_, by rw [h], by rw [e, List.length_map, ← hn]; exact ho, hb⟩
theorem ns_step {P : List (List UInt8)} {k : Nat} {p : List UInt8} (hk : k < P.length) (hz : P.getD k [] = p) (h : (P.take k).all rnOk = true) (hb : rnOk p = true) : (P.take (k + 1)).all rnOk = true := by
  have e : P[k] = p := by rw [← hz]; simp [hk]
  rw [List.take_succ_eq_append_getElem hk, List.all_append, h, e]; simp [hb]
theorem ns_no {P : List (List UInt8)} {k : Nat} {p : List UInt8} (hk : k < P.length) (hz : P.getD k [] = p) (hb : rnOk p = false) : nsOk P = false := by
  have e : P[k] = p := by rw [← hz]; simp [hk]
  have : P.all rnOk = false := by
    rw [List.all_eq_false]
    exact ⟨P[k], List.getElem_mem hk, by rw [e, hb]; simp⟩
  simp [nsOk, this]
theorem ns_long {P : List (List UInt8)} (h : 256 < P.length) : nsOk P = false := by
  have : decide (P.length ≤ 256) = false := by simp; omega
  simp [nsOk, this]
theorem ns_yes {P : List (List UInt8)} {k : Nat} (hk : k = P.length) (hL : k ≤ 256) (h : (P.take k).all rnOk = true) : nsOk P = true := by
  rw [hk, List.take_of_length_le (Nat.le_refl _)] at h
  have : decide (P.length ≤ 256) = true := by simp; omega
  simp [nsOk, h, this]
theorem ns_snoc {P : List (List UInt8)} {k : Nat} {p : List UInt8} (hk : k < P.length) (hz : P.getD k [] = p) : ((P.take (k + 1)).map hexV).map (Value.float .f32) = ((P.take k).map hexV).map (Value.float .f32) ++ [.float .f32 (hexV p)] := by
  have e : P[k] = p := by rw [← hz]; simp [hk]
  rw [List.take_succ_eq_append_getElem hk, e]; simp
theorem shaped_below {w w' : World} (h : w.ShapedOpen Tryd.prog) (hb : Below w.heap.size w w') : w'.ShapedOpen Tryd.prog := h.keptBut (hb.frame (fun _ => False)) (fun _ h => h.elim)
theorem StrAt.grownF {w w' : World} {a : Option Addr} {P : List (List UInt8)} {B n : Nat} {v : Value} {xs : List Value} (h : StrAt w a P) (ho : w.ownsRow B 36 1 v n xs) (hg : w.grownBy w' v.ownBlock) : StrAt w' a P := by
  rcases h with h | ⟨g, cur, h1, h2, h3⟩
  · exact .inl h
  · refine .inr ⟨g, cur, h1, (hg.block g h2.lt ?_).trans h2, h3⟩
    rcases ho.2 with ⟨rfl, _⟩ | ⟨g', cap, cur', rfl, _, hh, _⟩
    · simp [Value.ownBlock]
    · intro he
      have : g = g' := by simpa [Value.ownBlock] using he
      subst this
      unfold Blk at h2
      rw [h2] at hh
      injection hh with hh
      injection hh with _ ht
      exact absurd ht (by decide)
theorem readNumber_at (p : List UInt8) (hp : p.length ≤ 1048576) (w : World) : Calls Tryd.prog 42 #[strV p] w (RN w p) := by
  have := readNumber_any ⟨p.toArray⟩ (by simpa [ByteArray.size] using hp) w
  simpa [strV] using this
theorem info_flt : (Tryd.prog.info? 36).map (fun i => (i.zero, i.size, i.bytes)) = some (some (.float .f32 0), 1, 4) := by kernel_rfl
set_option maxHeartbeats 2000000 in
set_option maxRecDepth 20000 in
theorem ReadNumbers_any (s : ByteArray) (hs : s.size ≤ 1048576) (w : World) (hw : w.ShapedOpen Tryd.prog) : Calls Tryd.prog 25 #[.string s] w (RF w (partsOf s.data.toList)) := by
  obtain ⟨i1, hj1, hy0, hy1, hy2⟩ := info_parts info_flt
  have hw0 : Below w.heap.size w (w.alloc (.cells #[] 36)) := bl_alloc (bl_refl w) _
  have hown0 : (w.alloc (.cells #[] 36)).ownsRow w.heap.size 36 1 (.slice (some ⟨w.heap.size, 0, none⟩) 0 0) 0 [] := World.ownsRow_lit w #[] 0 (Nat.le_refl _) (by unfold maxLen; omega) rfl
  have HM := Lib.hid (fun (k : Nat) (p : List UInt8) => part_len (l := s.data.toList) (k := k) (p := p))
  rw [size_list] at HM
  have hpl := partsOf_len s.data.toList
  rw [size_list] at hpl
  have HP := Lib.hid (parted_any s hs (w.alloc (.cells #[] 36)) (shaped_below hw hw0))
  obtain ⟨P, hPs⟩ : ∃ P, RowKit.Hid (partsOf s.data.toList = P) := ⟨_, Lib.hid rfl⟩
  rw [hPs.out] at HM HP hpl ⊢
  go_enter Tryd.func25, Tryd.ntmps25
  go_wp2_with (go_at_call 33; refine (Calls.mono (by exact HP.out) ?_); rintro e w1 ⟨a, c, rfl, hat, hb1⟩)
  have hown1 := own_below hown0 hb1
  have hw1 := bl_call hw0 hb1
  clear hown0 hw0 hb1
  go_loopw [4, 13] (fun p i wr => ∃ (k : Nat) (ov : Value), ov = p ∧ k ≤ P.length ∧ k ≤ 256 ∧ i = .int .i64 k ∧ (∃ oa oc, ov = .slice oa k oc) ∧ wr.ownsRow w.heap.size 36 1 ov k (((P.take k).map hexV).map (Value.float .f32)) ∧ StrAt wr a P ∧ Below w.heap.size w wr ∧ RowKit.Hid ((P.take k).all rnOk = true)) (fun _ i _ => P.length - (intOf i).toNat)
  case atStart => exact ⟨0, _, rfl, Nat.zero_le _, by omega, rfl, ⟨_, _, rfl⟩, hown1, hat, hw1, Lib.hid rfl⟩
  case round =>
    clear hown1 hw1 hat
    obtain ⟨k, ov, rfl, hk, hk64, rfl, ⟨oa, oc, rfl⟩, hpo, hat, hbw, ha⟩ := hrel
    by_cases hlt : k < P.length
    · have hat0 := hat
      obtain ⟨g, rfl, hcell⟩ := hat.at_ hlt
      obtain ⟨q, hq⟩ : ∃ q, P.getD k [] = q := ⟨_, rfl⟩
      rw [hq] at hcell
      have hql : q.length ≤ 1048576 := by
        have := HM.out k q hlt hq
        omega
      have Hq := Lib.hid hq
      clear hq
      cases hB : rnOk q
      · have HN := Lib.hid (ns_no hlt Hq.out hB)
        clear hpo hat hat0
        go_wp2_with (go_at_call 42; refine (readNumber_at q hql _).mono ?_; rintro e w2 ⟨xx, rfl, hxx, hb2⟩)
        go_ret2
        exact RF_no HN.out (bl_call hbw hb2)
      · by_cases hL : k = 256
        · subst hL
          have HN := Lib.hid (ns_long hlt)
          clear hpo hat hat0
          go_wp2_with (go_at_call 42; refine (readNumber_at q hql _).mono ?_; rintro e w2 ⟨xx, rfl, hxx, hb2⟩)
          go_ret2
          exact RF_no HN.out (bl_call hbw hb2)
        · have hL' : ((k : Int) == 256) = false := by simp; omega
          have HS := Lib.hid (ns_step hlt Hq.out ha.out hB)
          have SN := Lib.hid (ns_snoc hlt Hq.out)
          have hsz := hbw.size
          go_wp2_with (first | (go_at_call 42; refine (readNumber_at q hql _).mono ?_; rintro e w2 ⟨xx, rfl, hxx, hb2⟩; obtain rfl := hxx hB; have hpo2 := own_below hpo hb2; have hat2 := hat0.below hb2; have hbw2 := bl_call hbw hb2; have hsz2 := hbw2.size) | (at_builtin; refine wpList_append_own _ rfl (.tmp 29) (.tmp 31) 42 rfl w.heap.size 36 i1 (.float .f32 0) 1 4 Tryd.underlying42 hj1 hy0 hy1 hy2 rfl (by decide) _ k _ rfl (hpo2.alloc _) ⟨w2.heap.size, 0, none⟩ 1 1 [.float .f32 (hexV q)] rfl rfl (new1 w2 _ _) (one1 rfl) (by unfold maxLen; omega) (by omega) (by simp; omega) ?_; intro v' w3 hown' hgrow _))
          have hb3 := grown_below (bl_alloc hbw2 _) (hpo2.alloc _) (Nat.le_refl _) hgrow
          have hat3 := (hat2.below (bl_alloc (bl_refl _) _)).grownF (hpo2.alloc _) hgrow
          have hform : ∃ a c, v' = .slice a (k + 1) c := by
            obtain ⟨g, c, e, _⟩ := hown'.form (by omega)
            exact ⟨_, c, e⟩
          clear hgrow hpo hpo2 hat hat0 hat2
          go_roundw
          case rel => exact ⟨k + 1, _, rfl, by omega, by omega, by go_num, hform, by rw [SN.out]; exact hown', hat3, hb3, HS⟩
          case measure => simp [intOf]; omega
    · have hkl : k = P.length := by omega
      have HL := Lib.hid (ns_yes hkl (by omega) ha.out)
      have TF := Lib.hid (show P.take k = P from List.take_of_length_le (by omega))
      rw [TF.out] at hpo
      clear hat
      go_wp2_with fail
      go_ret2
      exact RF_yes HL.out hkl hpo hbw
set_option maxHeartbeats 4000000 in
set_option maxRecDepth 20000 in
theorem l01NRead_any (s : ByteArray) (hs : s.size ≤ 1048576) (w : World) : Calls Tryd.prog 41 #[.string s] w (RF w (partsOf s.data.toList)) := by
  obtain ⟨i1, hj1, hy0, hy1, hy2⟩ := info_parts info_flt
  have hw0 : Below w.heap.size w (w.alloc (.cells #[] 36)) := bl_alloc (bl_refl w) _
  have hown0 : (w.alloc (.cells #[] 36)).ownsRow w.heap.size 36 1 (.slice (some ⟨w.heap.size, 0, none⟩) 0 0) 0 [] := World.ownsRow_lit w #[] 0 (Nat.le_refl _) (by unfold maxLen; omega) rfl
  by_cases hn : s.data.toList = [110, 111, 110, 101]
  · have hS : (s.toList == [110, 111, 110, 101]) = true := by rw [ByteArray.toList_eq, hn]; rfl
    have HP := Lib.hid (show partsOf s.data.toList = [] by unfold partsOf; rw [if_pos hn])
    clear hn
    go_enter Tryd.func41, Tryd.ntmps41
    go_wp2_with fail
    go_ret2
    rw [HP.out]
    exact RF_yes rfl rfl hown0 hw0
  · have hS : (s.toList == [110, 111, 110, 101]) = false := by rw [ByteArray.toList_eq]; simpa using hn
    have HP := Lib.hid (show partsOf s.data.toList = cutL s.data.toList by unfold partsOf; rw [if_neg hn])
    have hcl := cutL_len s.data.toList
    rw [size_list] at hcl
    rw [← HP.out] at hcl
    obtain ⟨P, hPs⟩ : ∃ P, RowKit.Hid (partsOf s.data.toList = P) := ⟨_, Lib.hid rfl⟩
    rw [hPs.out] at HP hcl ⊢
    clear hn
    have HC := Lib.hid (l01Cut_at s hs (w.alloc (.cells #[] 36)))
    rw [← HP.out] at HC
    by_cases hL : P.length ≤ 256
    · go_enter Tryd.func41, Tryd.ntmps41
      go_wp2_with (go_at_call 46; refine (Calls.mono (by exact HC.out) ?_); rintro e w1 ⟨a, c, rfl, hat, hb1⟩; have hown1 := own_below hown0 hb1; have hw1 := bl_call hw0 hb1; clear hown0 hw0 hb1)
      go_loopw [4, 6] (fun p i wr => ∃ (k : Nat) (ov : Value), ov = p ∧ k ≤ P.length ∧ i = .int .i64 k ∧ wr.ownsRow w.heap.size 36 1 ov k (((P.take k).map hexV).map (Value.float .f32)) ∧ StrAt wr a P ∧ Below w.heap.size w wr ∧ RowKit.Hid ((P.take k).all rnOk = true)) (fun _ i _ => P.length - (intOf i).toNat)
      case atStart => exact ⟨0, _, rfl, Nat.zero_le _, rfl, hown1, hat, hw1, Lib.hid rfl⟩
      case round =>
        clear hown1 hw1 hat
        obtain ⟨k, ov, rfl, hk, rfl, hpo, hat, hbw, ha⟩ := hrel
        by_cases hlt : k < P.length
        · have hat0 := hat
          obtain ⟨g, rfl, hcell⟩ := hat.at_ hlt
          obtain ⟨q, hq⟩ : ∃ q, P.getD k [] = q := ⟨_, rfl⟩
          rw [hq] at hcell
          have Hq := Lib.hid hq
          clear hq
          obtain ⟨qs, hqs⟩ : ∃ qs : ByteArray, RowKit.Hid (qs.data.toList = q) := ⟨⟨q.toArray⟩, Lib.hid (by simp)⟩
          have hqv : strV q = .string qs := by
            rw [strV, ← hqs.out]
          rw [hqv] at hcell
          by_cases h8 : qs.size = 8
          · have HSp := Lib.hid hpo
            have HSa := Lib.hid hat0
            clear hpo hat hat0
            go_wp2_with fail
            go_loop [7, 8] (fun v ki => ∃ j n : Nat, j ≤ 8 ∧ ki = .int .i64 j ∧ v = .int .i64 n ∧ n ≤ 4294967295 ∧ RowKit.Hid (n = hexV (qs.data.toList.take j)) ∧ RowKit.Hid (allH (qs.data.toList.take j) = true)) (fun _ ki => 8 - (intOf ki).toNat)
            case atStart => exact ⟨0, 0, by omega, rfl, rfl, by omega, Lib.hid rfl, Lib.hid rfl⟩
            case round =>
              obtain ⟨j, n, hj, rfl, rfl, hn, hval, hal⟩ := hrel
              by_cases hj8 : j < 8
              · have hjs : j < qs.size := by omega
                have hb : qs[j].toNat < 256 := qs[j].toNat_lt
                cases hc : okH qs[j].toNat
                · have HN := Lib.hid (ns_no hlt Hq.out (by rw [← hqs.out]; exact rn_digit (l := qs.data.toList) (k := j) (by rw [size_list]; exact hjs) hc))
                  by_cases a1 : 48 ≤ qs[j].toNat
                  · have a2 : ¬ qs[j].toNat ≤ 57 := by intro h; simp [okH, a1, h] at hc
                    by_cases a3 : 97 ≤ qs[j].toNat
                    · have a4 : ¬ qs[j].toNat ≤ 102 := by intro h; simp [okH, a3, h] at hc
                      clear hc
                      go_wp2_with fail
                      go_ret2
                      exact RF_no HN.out hbw
                    · clear hc
                      go_wp2_with fail
                      go_ret2
                      exact RF_no HN.out hbw
                  · clear hc
                    have a3 : ¬ 97 ≤ qs[j].toNat := by omega
                    go_wp2_with fail
                    go_ret2
                    exact RF_no HN.out hbw
                · have HA := Lib.hid (allH_step hjs hal.out hc)
                  have hst := hex_step hjs hval.out
                  have hbd := hexV_bd (l := qs.data.toList) (k := j + 1) (by omega) HA.out
                  rw [← hst] at hbd
                  by_cases a2 : qs[j].toNat ≤ 57
                  · have a1 : 48 ≤ qs[j].toNat := by
                      simp only [okH, Bool.or_eq_true, Bool.and_eq_true, decide_eq_true_eq] at hc; omega
                    have a3 : ¬ 97 ≤ qs[j].toNat := by omega
                    have hvv : hv qs[j].toNat = qs[j].toNat - 48 := by unfold hv; rw [if_pos a2]
                    rw [hvv] at hst hbd
                    have HS := Lib.hid hst
                    clear hst hvv hc
                    go_wp2_with fail
                    go_round
                    case rel => exact ⟨j + 1, 16 * n + (qs[j].toNat - 48), by omega, by go_num, by go_num, hbd, HS, HA⟩
                    case measure => simp [intOf]; omega
                  · have a1 : 48 ≤ qs[j].toNat := by omega
                    have a34 : 97 ≤ qs[j].toNat ∧ qs[j].toNat ≤ 102 := by
                      simp only [okH, Bool.or_eq_true, Bool.and_eq_true, decide_eq_true_eq] at hc; omega
                    obtain ⟨a3, a4⟩ := a34
                    have hvv : hv qs[j].toNat = qs[j].toNat - 87 := by unfold hv; rw [if_neg a2]
                    rw [hvv] at hst hbd
                    have HS := Lib.hid hst
                    clear hst hvv hc
                    go_wp2_with fail
                    go_round
                    case rel => exact ⟨j + 1, 16 * n + (qs[j].toNat - 87), by omega, by go_num, by go_num, hbd, HS, HA⟩
                    case measure => simp [intOf]; omega
              · have hj' : j = 8 := by omega
                have hall : allH qs.data.toList = true := by have := hal.out; rwa [List.take_of_length_le (by rw [size_list]; omega)] at this
                have hval2 : n = hexV qs.data.toList := by have := hval.out; rwa [List.take_of_length_le (by rw [size_list]; omega)] at this
                have hr := rn_all (by rw [size_list]; exact h8) hall
                rw [← hval2] at hr
                rw [hqs.out] at hr hval2
                have Hv := Lib.hid hval2
                cases hq2 : (bitsI n == (n : Int))
                · rw [hq2] at hr
                  have HN := Lib.hid (ns_no hlt Hq.out hr)
                  clear hr hall hval2
                  go_wp2_with (first | (go_at_call 50; refine (l01From_small n hn _).mono ?_; rintro e w' ⟨rfl, rfl⟩) | (go_at_call 51; refine (l01Bits_any n (by omega) _).mono ?_; rintro e w' ⟨rfl, m, rfl⟩))
                  go_ret2
                  exact RF_no HN.out (bl_drewN hbw _)
                · rw [hq2] at hr
                  have HS := Lib.hid (ns_step hlt Hq.out ha.out hr)
                  have SN := Lib.hid (ns_snoc hlt Hq.out)
                  rw [← hval2] at SN
                  clear hr hall hval2
                  have hpo := HSp.out
                  have hat0 := HSa.out
                  have hsz := hbw.size
                  go_wp2_with (first | (go_at_call 50; refine (l01From_small n hn _).mono ?_; rintro e w' ⟨rfl, rfl⟩) | (go_at_call 51; refine (l01Bits_any n (by omega) _).mono ?_; rintro e w' ⟨rfl, m, rfl⟩) | (at_builtin; refine wpList_append_own _ rfl (.tmp 74) (.tmp 76) 42 rfl w.heap.size 36 i1 (.float .f32 0) 1 4 Tryd.underlying42 hj1 hy0 hy1 hy2 rfl (by decide) _ k _ rfl ((own_drewN hpo m).alloc _) ⟨wr.heap.size, 0, none⟩ 1 1 [.float .f32 n] rfl rfl (new1 (wr.drewN m) _ _) (one1 rfl) (by unfold maxLen; omega) (by omega) (by simp; omega) ?_; intro v' w3 hown' hgrow _))
                  have hb3 := grown_below (bl_alloc (bl_drewN hbw m) _) ((own_drewN hpo m).alloc _) (Nat.le_refl _) hgrow
                  have hat3 := (hat0.below (bl_alloc (bl_drewN (bl_refl _) m) _)).grownF ((own_drewN hpo m).alloc _) hgrow
                  clear hgrow hpo hat0
                  go_roundw
                  case rel => exact ⟨k + 1, _, rfl, by omega, by go_num, by rw [SN.out]; exact hown', hat3, hb3, HS⟩
                  case measure => simp [intOf]; omega
          · have h8' : ((qs.size : Int) == 8) = false := by simp; omega
            have HN := Lib.hid (ns_no hlt Hq.out (by rw [← hqs.out]; exact rn_len (by rw [size_list]; exact h8)))
            clear hpo hat hat0
            go_wp2_with fail
            go_ret2
            exact RF_no HN.out hbw
        · have hkl : k = P.length := by omega
          have HL := Lib.hid (ns_yes hkl (by omega) ha.out)
          have TF := Lib.hid (show P.take k = P from List.take_of_length_le (by omega))
          rw [TF.out] at hpo
          clear hat
          go_wp2_with fail
          go_ret2
          exact RF_yes HL.out hkl hpo hbw
    · have HN := Lib.hid (ns_long (show 256 < P.length by omega))
      go_enter Tryd.func41, Tryd.ntmps41
      go_wp2_with (go_at_call 46; refine (Calls.mono (by exact HC.out) ?_); rintro e w1 ⟨a, c, rfl, hat, hb1⟩; have hw1 := bl_call hw0 hb1; clear hown0 hw0 hb1 hat)
      go_ret2
      exact RF_no HN.out hw1
theorem spec_ReadNumbers_any (s : ByteArray) (hs : s.size ≤ 1048576) (w : World) : Calls Tryd.prog 24 #[.string s] w (RF w (partsOf s.data.toList)) := by
  go_enter Tryd.func24, Tryd.ntmps24
  go_wp2_with (go_at_call 41; refine (l01NRead_any s hs _).mono ?_; rintro e w1 ⟨v, rfl, ho, hb⟩)
  go_ret2
  exact ⟨v, rfl, ho, hb⟩
end Go.Proofs.YtncmpbgekmaoeaaDoor
