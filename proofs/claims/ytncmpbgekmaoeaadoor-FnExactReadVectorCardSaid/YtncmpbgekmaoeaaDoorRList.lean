/- Lists of numbers read from a text. No conditions but a bound on the length. -/
import Derived.Test.YtncmpbgekmaoeaaDoorCut
import Derived.Test.YtncmpbgekmaoeaaDoorRead
import Derived.Test.YtncmpbgekmaoeaaDoorInts
namespace Go.Proofs.YtncmpbgekmaoeaaDoor
open Go.Fl Go.RowKit

def Blk (w : World) (g : Nat) (cs : Array Value) : Prop := w.heap[g]? = some (.cells cs 9 (0, 0))
theorem Blk.lt {w : World} {g : Nat} {cs : Array Value} (h : Blk w g cs) : g < w.heap.size := by
  rcases Nat.lt_or_ge g w.heap.size with hlt | hge
  · exact hlt
  · unfold Blk at h; rw [Array.getElem?_eq_none hge] at h; cases h
theorem Blk.cell {w : World} {g : Nat} {cs : Array Value} (h : Blk w g cs) (i : Nat) : w.cell? ⟨g, i, none⟩ = cs[i]? := cell_of_row w g i cs _ (0, 0) h
/-- Where the slice's address a leads, the texts P lie in a block of texts. -/
def StrAt (w : World) (a : Option Addr) (P : List (List UInt8)) : Prop := P.length = 0 ∨ ∃ g cur, a = some ⟨g, 0, none⟩ ∧ Blk w g cur ∧ ∀ k, k < P.length → cur[k]? = some (strV (P.getD k []))
theorem StrAt.below {w w' : World} {a : Option Addr} {P : List (List UInt8)} (h : StrAt w a P) (hb : Below w.heap.size w w') : StrAt w' a P := by
  rcases h with h | ⟨g, cur, h1, h2, h3⟩
  · exact .inl h
  · exact .inr ⟨g, cur, h1, (hb.block g h2.lt).trans h2, h3⟩
theorem StrAt.grown {w w' : World} {a : Option Addr} {P : List (List UInt8)} {B n : Nat} {v : Value} {xs : List Value} (h : StrAt w a P) (ho : w.ownsRow B 2 1 v n xs) (hg : w.grownBy w' v.ownBlock) : StrAt w' a P := by
  rcases h with h | ⟨g, cur, h1, h2, h3⟩
  · exact .inl h
  · refine .inr ⟨g, cur, h1, (hg.block g h2.lt ?_).trans h2, h3⟩
    rcases ho.2 with ⟨rfl, _⟩ | ⟨g', cap, cur', rfl, _, hh, _⟩
    · simp [Value.ownBlock]
    · intro he
      have : g = g' := by simpa [Value.ownBlock] using he
      subst this
      unfold Blk at h2
      rw [h2] at hh
      injection hh with hh
      injection hh with _ ht
      exact absurd ht (by decide)
theorem StrAt.at_ {w : World} {a : Option Addr} {P : List (List UInt8)} {k : Nat} (h : StrAt w a P) (hk : k < P.length) : ∃ g, a = some ⟨g, 0, none⟩ ∧ w.cell? ⟨g, k, none⟩ = some (strV (P.getD k [])) := by
  rcases h with h | ⟨g, cur, h1, h2, h3⟩
  · omega
  · exact ⟨g, h1, (h2.cell k).trans (h3 k hk)⟩
theorem StrAt.of_row {w : World} {B n : Nat} {v : Value} {P : List (List UInt8)} (hn : n = P.length) (h : w.ownsRow B 9 1 v n (P.map strV)) : ∃ a c, v = .slice a P.length c ∧ StrAt w a P := by
  subst hn
  have h' := h
  rcases h.2 with ⟨rfl, h0⟩ | ⟨g, cap, cur, rfl, hb, hg, rest⟩
  · rw [← h0]; exact ⟨_, _, rfl, .inl h0⟩
  · refine ⟨_, cap, rfl, .inr ⟨g, cur, rfl, hg, fun k hk => ?_⟩⟩
    have h1 := h'.cellAt k (by omega)
    have hB : Blk w g cur := hg
    rw [hB.cell k] at h1
    rw [h1]; simp [hk]
theorem parted_any (s : ByteArray) (hs : s.size ≤ 1048576) (w : World) (hw : w.ShapedOpen Tryd.prog) : Calls Tryd.prog 33 #[.string s] w
    fun e w' => ∃ a c, e = .returned (.slice a (partsOf s.data.toList).length c) ∧ StrAt w' a (partsOf s.data.toList) ∧ Below w.heap.size w w' := by
  by_cases hn : s.data.toList = [110, 111, 110, 101]
  · have hS : (s.toList == [110, 111, 110, 101]) = true := by rw [ByteArray.toList_eq, hn]; rfl
    have HP := Lib.hid (show partsOf s.data.toList = [] by unfold partsOf; rw [if_pos hn])
    clear hn
    go_enter Tryd.func33, Tryd.ntmps33
    go_wp2_with fail
    go_ret
    rw [HP.out]
    exact ⟨_, _, rfl, .inl rfl, bl_refl _⟩
  · have hS : (s.toList == [110, 111, 110, 101]) = false := by rw [ByteArray.toList_eq]; simpa using hn
    have HP := Lib.hid (show partsOf s.data.toList = cutL s.data.toList by unfold partsOf; rw [if_neg hn])
    have HC := Lib.hid (Tryd.strings_Split_shaped s ⟨#[44]⟩ w hw (by omega) (by decide))
    clear hn
    go_enter Tryd.func33, Tryd.ntmps33
    go_wp2_with (go_at_call 47; refine (Calls.mono (by exact HC.out) ?_); rintro e w1 ⟨rfl, rfl⟩)
    go_ret
    rw [HP.out]
    have e2 : (Lib.splitB ⟨#[44]⟩ 0 (Lib.countB s ⟨#[44]⟩) s).map Value.string = (cutL s.data.toList).map strV := by
      rw [← split_parts, List.map_map]
      refine List.map_congr_left fun x _ => ?_
      simp only [Function.comp, strV]
    rw [e2]
    have hl : (cutL s.data.toList).length ≤ maxLen := by have := cutL_len s.data.toList; rw [size_list] at this; unfold maxLen; omega
    obtain ⟨a, c, hv, hat⟩ := StrAt.of_row (P := cutL s.data.toList) rfl (by
      have := World.ownsRow_lit (e := 9) (size := 1) (base := w.heap.size) w ((cutL s.data.toList).map strV).toArray (cutL s.data.toList).length (Nat.le_refl _) hl (by simp)
      simpa using this)
    rw [split_len, hv]
    exact ⟨a, c, rfl, hat, bl_alloc (bl_refl _) _⟩

def lsOk (P : List (List UInt8)) : Bool := P.all rdOk && decide (P.length ≤ 64)
def lsN (P : List (List UInt8)) : List Int := if lsOk P = true then P.map rdN else []
def RL (w : World) (P : List (List UInt8)) : Ending → World → Prop := fun e w' => ∃ v, e = .returned (.tuple #[v, .bool (lsOk P)]) ∧ w'.ownsRow w.heap.size 2 1 v (lsN P).length ((lsN P).map (Value.int .i64)) ∧ Below w.heap.size w w'
theorem RL_no {w w' : World} {P : List (List UInt8)} (h : lsOk P = false) (hb : Below w.heap.size w w') : RL w P (.returned (.tuple #[.slice none 0 0, .bool false])) w' := by
  have e : lsN P = [] := by unfold lsN; rw [h]; rfl
  exact ⟨_, by rw [h], by rw [e]; exact World.ownsRow_nil _ _ _ _, hb⟩
theorem RL_yes {w w' : World} {v : Value} {n : Nat} {P : List (List UInt8)} (h : lsOk P = true) (hn : n = P.length) (ho : w'.ownsRow w.heap.size 2 1 v n ((P.map rdN).map (Value.int .i64))) (hb : Below w.heap.size w w') : RL w P (.returned (.tuple #[v, .bool true])) w' := by
  have e : lsN P = P.map rdN := by unfold lsN; rw [if_pos h]
  exact ⟨_, by rw [h], by rw [e, List.length_map, ← hn]; exact ho, hb⟩
theorem ls_step {P : List (List UInt8)} {k : Nat} {p : List UInt8} (hk : k < P.length) (hz : P.getD k [] = p) (h : (P.take k).all rdOk = true) (hb : rdOk p = true) : (P.take (k + 1)).all rdOk = true := by
  have e : P[k] = p := by rw [← hz]; simp [hk]
  rw [List.take_succ_eq_append_getElem hk, List.all_append, h, e]; simp [hb]
theorem ls_no {P : List (List UInt8)} {k : Nat} {p : List UInt8} (hk : k < P.length) (hz : P.getD k [] = p) (hb : rdOk p = false) : lsOk P = false := by
  have e : P[k] = p := by rw [← hz]; simp [hk]
  have : P.all rdOk = false := by
    rw [List.all_eq_false]
    exact ⟨P[k], List.getElem_mem hk, by rw [e, hb]; simp⟩
  simp [lsOk, this]
theorem ls_long {P : List (List UInt8)} (h : 64 < P.length) : lsOk P = false := by
  have : decide (P.length ≤ 64) = false := by simp; omega
  simp [lsOk, this]
theorem ls_yes {P : List (List UInt8)} {k : Nat} (hk : k = P.length) (h64 : k ≤ 64) (h : (P.take k).all rdOk = true) : lsOk P = true := by
  rw [hk, List.take_of_length_le (Nat.le_refl _)] at h
  have : decide (P.length ≤ 64) = true := by simp; omega
  simp [lsOk, h, this]
theorem ls_snoc {P : List (List UInt8)} {k : Nat} {p : List UInt8} (hk : k < P.length) (hz : P.getD k [] = p) : ((P.take (k + 1)).map rdN).map (Value.int .i64) = ((P.take k).map rdN).map (Value.int .i64) ++ [.int .i64 (rdN p)] := by
  have e : P[k] = p := by rw [← hz]; simp [hk]
  rw [List.take_succ_eq_append_getElem hk, e]; simp
theorem part_len {l p : List UInt8} {k : Nat} (hk : k < (partsOf l).length) (hz : (partsOf l).getD k [] = p) : p.length ≤ l.length := by
  have e : (partsOf l)[k] = p := by rw [← hz]; simp [hk]
  rw [← e]
  exact partsOf_mem (List.getElem_mem hk)
theorem l01Value_at (p : List UInt8) (hp : p.length ≤ 1048576) (w : World) : Calls Tryd.prog 29 #[strV p] w (RD w p) := by
  have := l01Value_any ⟨p.toArray⟩ (by simpa [ByteArray.size] using hp) w
  simpa [strV] using this
theorem ReadDecimal_at (p : List UInt8) (hp : p.length ≤ 1048576) (w : World) (hw : Shelf w) : Calls Tryd.prog 10 #[strV p] w (RD w p) := by
  have := ReadDecimal_any ⟨p.toArray⟩ (by simpa [ByteArray.size] using hp) w hw
  simpa [strV] using this
theorem l01Cut_at (s : ByteArray) (hs : s.size ≤ 1048576) (w : World) : Calls Tryd.prog 46 #[.string s, .int .u8 44] w
    fun e w' => ∃ a c, e = .returned (.slice a (cutL s.data.toList).length c) ∧ StrAt w' a (cutL s.data.toList) ∧ Below w.heap.size w w' := by
  refine (l01Cut_any s hs w).mono ?_
  rintro e w' ⟨v, rfl, hrow, hb⟩
  obtain ⟨a, c, rfl, hat⟩ := StrAt.of_row rfl hrow
  exact ⟨a, c, rfl, hat, hb⟩
theorem info_int64 : (Tryd.prog.info? 2).map (fun i => (i.zero, i.size, i.bytes)) = some (some (.int .i64 0), 1, 8) := by kernel_rfl
set_option maxHeartbeats 2000000 in
set_option maxRecDepth 20000 in
theorem l01Numbers_any (s : ByteArray) (hs : s.size ≤ 1048576) (w : World) : Calls Tryd.prog 32 #[.string s] w (RL w (partsOf s.data.toList)) := by
  obtain ⟨i1, hj1, hy0, hy1, hy2⟩ := info_parts info_int64
  have hw0 : Below w.heap.size w (w.alloc (.cells #[] 2)) := bl_alloc (bl_refl w) _
  have hown0 : (w.alloc (.cells #[] 2)).ownsRow w.heap.size 2 1 (.slice (some ⟨w.heap.size, 0, none⟩) 0 0) 0 [] := World.ownsRow_lit w #[] 0 (Nat.le_refl _) (by unfold maxLen; omega) rfl
  by_cases hn : s.data.toList = [110, 111, 110, 101]
  · have hS : (s.toList == [110, 111, 110, 101]) = true := by rw [ByteArray.toList_eq, hn]; rfl
    have HP := Lib.hid (show partsOf s.data.toList = [] by unfold partsOf; rw [if_pos hn])
    clear hn
    go_enter Tryd.func32, Tryd.ntmps32
    go_wp2_with fail
    go_ret2
    rw [HP.out]
    exact RL_yes rfl rfl hown0 hw0
  · have hS : (s.toList == [110, 111, 110, 101]) = false := by rw [ByteArray.toList_eq]; simpa using hn
    have HP := Lib.hid (show partsOf s.data.toList = cutL s.data.toList by unfold partsOf; rw [if_neg hn])
    have hcl := cutL_len s.data.toList
    rw [size_list] at hcl
    have HM := Lib.hid (fun (k : Nat) (p : List UInt8) => part_len (l := s.data.toList) (k := k) (p := p))
    rw [← HP.out] at hcl
    rw [size_list] at HM
    obtain ⟨P, hPs⟩ : ∃ P, RowKit.Hid (partsOf s.data.toList = P) := ⟨_, Lib.hid rfl⟩
    rw [hPs.out] at HP hcl ⊢
    clear hn
    have HC := Lib.hid (l01Cut_at s hs (w.alloc (.cells #[] 2)))
    rw [← HP.out] at HC
    by_cases h64 : P.length ≤ 64
    · go_enter Tryd.func32, Tryd.ntmps32
      go_wp2_with (go_at_call 46; refine (Calls.mono (by exact HC.out) ?_); rintro e w1 ⟨a, c, rfl, hat, hb1⟩; have hown1 := own_below hown0 hb1; have hw1 := bl_call hw0 hb1; clear hown0 hw0 hb1)
      go_loopw [4, 6] (fun p i wr => ∃ (k : Nat) (ov : Value), ov = p ∧ k ≤ P.length ∧ i = .int .i64 k ∧ wr.ownsRow w.heap.size 2 1 ov k (((P.take k).map rdN).map (Value.int .i64)) ∧ StrAt wr a P ∧ Below w.heap.size w wr ∧ RowKit.Hid ((P.take k).all rdOk = true)) (fun _ i _ => P.length - (intOf i).toNat)
      case atStart => exact ⟨0, _, rfl, Nat.zero_le _, rfl, hown1, hat, hw1, Lib.hid rfl⟩
      case round =>
        clear hown1 hw1 hat
        obtain ⟨k, ov, rfl, hk, rfl, hpo, hat, hbw, ha⟩ := hrel
        by_cases hlt : k < P.length
        · have hat0 := hat
          obtain ⟨g, rfl, hcell⟩ := hat.at_ hlt
          obtain ⟨q, hq⟩ : ∃ q, P.getD k [] = q := ⟨_, rfl⟩
          rw [hq] at hcell
          have hql : q.length ≤ 1048576 := by
            have := HM.out k q (by rw [hPs.out]; exact hlt) (by rw [hPs.out]; exact hq)
            omega
          have Hq := Lib.hid hq
          clear hq
          cases hB : rdOk q
          · have HN := Lib.hid (ls_no hlt Hq.out hB)
            clear hpo hat hat0
            go_wp2_with (go_at_call 29; refine (l01Value_at q hql _).mono ?_; rintro e w2 ⟨rfl, hb2⟩)
            go_ret2
            exact RL_no HN.out (bl_call hbw hb2)
          · have HS := Lib.hid (ls_step hlt Hq.out ha.out hB)
            have SN := Lib.hid (ls_snoc hlt Hq.out)
            have hsz := hbw.size
            go_wp2_with (first | (go_at_call 29; refine (l01Value_at q hql _).mono ?_; rintro e w2 ⟨rfl, hb2⟩; have hpo2 := own_below hpo hb2; have hat2 := hat0.below hb2; have hbw2 := bl_call hbw hb2; have hsz2 := hbw2.size) | (at_builtin; refine wpList_append_own _ rfl (.tmp 34) (.tmp 36) 25 rfl w.heap.size 2 i1 (.int .i64 0) 1 8 Tryd.underlying25 hj1 hy0 hy1 hy2 rfl (by decide) _ k _ rfl (hpo2.alloc _) ⟨w2.heap.size, 0, none⟩ 1 1 [.int .i64 (rdN q)] rfl rfl (new1 w2 _ _) (one1 rfl) (by unfold maxLen; omega) (by omega) (by simp; omega) ?_; intro v' w3 hown' hgrow _))
            have hb3 := grown_below (bl_alloc hbw2 _) (hpo2.alloc _) (Nat.le_refl _) hgrow
            have hat3 := (hat2.below (bl_alloc (bl_refl _) _)).grown (hpo2.alloc _) hgrow
            clear hgrow hpo hpo2 hat hat0 hat2
            go_roundw
            case rel => exact ⟨k + 1, _, rfl, by omega, by go_num, by rw [SN.out]; exact hown', hat3, hb3, HS⟩
            case measure => simp [intOf]; omega
        · have hkl : k = P.length := by omega
          have HL := Lib.hid (ls_yes hkl (by omega) ha.out)
          have TF := Lib.hid (show P.take k = P from List.take_of_length_le (by omega))
          rw [TF.out] at hpo
          clear hat
          go_wp2_with fail
          go_ret2
          exact RL_yes HL.out hkl hpo hbw
    · have HN := Lib.hid (ls_long (show 64 < P.length by omega))
      go_enter Tryd.func32, Tryd.ntmps32
      go_wp2_with (go_at_call 46; refine (Calls.mono (by exact HC.out) ?_); rintro e w1 ⟨a, c, rfl, hat, hb1⟩; have hw1 := bl_call hw0 hb1; clear hown0 hw0 hb1 hat)
      go_ret2
      exact RL_no HN.out hw1
theorem spec_ReadList_any (s : ByteArray) (hs : s.size ≤ 1048576) (w : World) : Calls Tryd.prog 11 #[.string s] w (RL w (partsOf s.data.toList)) := by
  go_enter Tryd.func11, Tryd.ntmps11
  go_wp2_with (go_at_call 32; refine (l01Numbers_any s hs _).mono ?_; rintro e w1 ⟨v, rfl, ho, hb⟩)
  go_ret2
  exact ⟨v, rfl, ho, hb⟩
structure ShelfL (w : World) : Prop where
  shelf : Shelf w
  shaped : w.ShapedOpen Tryd.prog
theorem ShelfL.below {w w' : World} (h : ShelfL w) (hb : Below w.heap.size w w') : ShelfL w' := ⟨h.shelf.below hb, h.shaped.keptBut (hb.frame (fun _ => False)) (fun _ h => h.elim)⟩
set_option maxHeartbeats 2000000 in
set_option maxRecDepth 20000 in
theorem ReadList_any (s : ByteArray) (hs : s.size ≤ 1048576) (w : World) (hw : ShelfL w) : Calls Tryd.prog 12 #[.string s] w (RL w (partsOf s.data.toList)) := by
  obtain ⟨i1, hj1, hy0, hy1, hy2⟩ := info_parts info_int64
  have hw0 : Below w.heap.size w (w.alloc (.cells #[] 2)) := bl_alloc (bl_refl w) _
  have hown0 : (w.alloc (.cells #[] 2)).ownsRow w.heap.size 2 1 (.slice (some ⟨w.heap.size, 0, none⟩) 0 0) 0 [] := World.ownsRow_lit w #[] 0 (Nat.le_refl _) (by unfold maxLen; omega) rfl
  have HM := Lib.hid (fun (k : Nat) (p : List UInt8) => part_len (l := s.data.toList) (k := k) (p := p))
  rw [size_list] at HM
  have hpl := partsOf_len s.data.toList
  rw [size_list] at hpl
  have HP := Lib.hid (parted_any s hs (w.alloc (.cells #[] 2)) (hw.below hw0).shaped)
  obtain ⟨P, hPs⟩ : ∃ P, RowKit.Hid (partsOf s.data.toList = P) := ⟨_, Lib.hid rfl⟩
  rw [hPs.out] at HM HP hpl ⊢
  go_enter Tryd.func12, Tryd.ntmps12
  go_wp2_with (go_at_call 33; refine (Calls.mono (by exact HP.out) ?_); rintro e w1 ⟨a, c, rfl, hat, hb1⟩)
  have hown1 := own_below hown0 hb1
  have hw1 := bl_call hw0 hb1
  clear hown0 hw0 hb1
  go_loopw [4, 13] (fun p i wr => ∃ (k : Nat) (ov : Value), ov = p ∧ k ≤ P.length ∧ k ≤ 64 ∧ i = .int .i64 k ∧ (∃ oa oc, ov = .slice oa k oc) ∧ wr.ownsRow w.heap.size 2 1 ov k (((P.take k).map rdN).map (Value.int .i64)) ∧ StrAt wr a P ∧ Below w.heap.size w wr ∧ RowKit.Hid ((P.take k).all rdOk = true)) (fun _ i _ => P.length - (intOf i).toNat)
  case atStart => exact ⟨0, _, rfl, Nat.zero_le _, by omega, rfl, ⟨_, _, rfl⟩, hown1, hat, hw1, Lib.hid rfl⟩
  case round =>
    clear hown1 hw1 hat
    obtain ⟨k, ov, rfl, hk, hk64, rfl, ⟨oa, oc, rfl⟩, hpo, hat, hbw, ha⟩ := hrel
    have hwr := (hw.below hbw).shelf
    by_cases hlt : k < P.length
    · have hat0 := hat
      obtain ⟨g, rfl, hcell⟩ := hat.at_ hlt
      obtain ⟨q, hq⟩ : ∃ q, P.getD k [] = q := ⟨_, rfl⟩
      rw [hq] at hcell
      have hql : q.length ≤ 1048576 := by
        have := HM.out k q hlt hq
        omega
      have Hq := Lib.hid hq
      clear hq
      cases hB : rdOk q
      · have HN := Lib.hid (ls_no hlt Hq.out hB)
        clear hpo hat hat0
        go_wp2_with (go_at_call 10; refine (ReadDecimal_at q hql _ hwr).mono ?_; rintro e w2 ⟨rfl, hb2⟩)
        go_ret2
        exact RL_no HN.out (bl_call hbw hb2)
      · by_cases h64 : k = 64
        · subst h64
          have HN := Lib.hid (ls_long hlt)
          clear hpo hat hat0
          go_wp2_with (go_at_call 10; refine (ReadDecimal_at q hql _ hwr).mono ?_; rintro e w2 ⟨rfl, hb2⟩)
          go_ret2
          exact RL_no HN.out (bl_call hbw hb2)
        · have h64' : ((k : Int) == 64) = false := by simp; omega
          have HS := Lib.hid (ls_step hlt Hq.out ha.out hB)
          have SN := Lib.hid (ls_snoc hlt Hq.out)
          have hsz := hbw.size
          go_wp2_with (first | (go_at_call 10; refine (ReadDecimal_at q hql _ hwr).mono ?_; rintro e w2 ⟨rfl, hb2⟩; have hpo2 := own_below hpo hb2; have hat2 := hat0.below hb2; have hbw2 := bl_call hbw hb2; have hsz2 := hbw2.size) | (at_builtin; refine wpList_append_own _ rfl (.tmp 29) (.tmp 31) 25 rfl w.heap.size 2 i1 (.int .i64 0) 1 8 Tryd.underlying25 hj1 hy0 hy1 hy2 rfl (by decide) _ k _ rfl (hpo2.alloc _) ⟨w2.heap.size, 0, none⟩ 1 1 [.int .i64 (rdN q)] rfl rfl (new1 w2 _ _) (one1 rfl) (by unfold maxLen; omega) (by omega) (by simp; omega) ?_; intro v' w3 hown' hgrow _))
          have hb3 := grown_below (bl_alloc hbw2 _) (hpo2.alloc _) (Nat.le_refl _) hgrow
          have hat3 := (hat2.below (bl_alloc (bl_refl _) _)).grown (hpo2.alloc _) hgrow
          have hform : ∃ a c, v' = .slice a (k + 1) c := by
            obtain ⟨g, c, e, _⟩ := hown'.form (by omega)
            exact ⟨_, c, e⟩
          clear hgrow hpo hpo2 hat hat0 hat2
          go_roundw
          case rel => exact ⟨k + 1, _, rfl, by omega, by omega, by go_num, hform, by rw [SN.out]; exact hown', hat3, hb3, HS⟩
          case measure => simp [intOf]; omega
    · have hkl : k = P.length := by omega
      have HL := Lib.hid (ls_yes hkl (by omega) ha.out)
      have TF := Lib.hid (show P.take k = P from List.take_of_length_le (by omega))
      rw [TF.out] at hpo
      clear hat
      go_wp2_with fail
      go_ret2
      exact RL_yes HL.out hkl hpo hbw
end Go.Proofs.YtncmpbgekmaoeaaDoor
