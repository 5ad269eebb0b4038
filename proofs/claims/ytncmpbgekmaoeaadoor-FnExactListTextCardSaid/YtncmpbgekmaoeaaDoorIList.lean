/- Lists of whole numbers: copied, opened, and their text. No conditions but a bound on the length. -/
import Derived.Test.YtncmpbgekmaoeaaDoorInts
import Derived.Test.YtncmpbgekmaoeaaDoorOpen
import Derived.Test.YtncmpbgekmaoeaaDoorDec
namespace Go.Proofs.YtncmpbgekmaoeaaDoor
open Go.Fl Go.RowKit

theorem info_i64 : (Tryd.prog.info? 2).map (fun i => (i.zero, i.size, i.bytes)) = some (some (.int .i64 0), 1, 8) := by kernel_rfl
/-- What lies in the new row behind k rounds. -/
def rowI (xs : List Int) (k : Nat) : List Value := (xs.take k).map (Value.int .i64) ++ List.replicate (xs.length - k) (Value.int .i64 0)
theorem rowI_len (xs : List Int) (k : Nat) (hk : k ≤ xs.length) : (rowI xs k).length = xs.length := by simp [rowI]; omega
theorem rowI_zero (xs : List Int) : (madeCells (Value.int .i64 0).cells (xs.length * 1)).toList = rowI xs 0 := by
  simp only [rowI, List.take_zero, List.map_nil, List.nil_append, Nat.sub_zero, Nat.mul_one]
  refine List.ext_getElem (by simp [madeCells]) fun i h1 h2 => ?_
  simp [madeCells, Value.cells, Nat.mod_one]
theorem rowI_set (xs : List Int) (k : Nat) (hk : k < xs.length) : (rowI xs k).set k (.int .i64 xs[k]) = rowI xs (k + 1) := by
  unfold rowI
  have e : xs.length - k = (xs.length - (k + 1)) + 1 := by omega
  have l : ((xs.take k).map (Value.int .i64)).length = k := by simp; omega
  rw [List.set_append_right _ _ (by omega), l, Nat.sub_self, e, List.replicate_succ, List.set_cons_zero, List.take_succ_eq_append_getElem hk, List.map_append, List.append_assoc]
  simp
theorem rowI_full (xs : List Int) : rowI xs xs.length = xs.map (Value.int .i64) := by simp [rowI]
theorem rowI_get (xs : List Int) (k j : Nat) (hk : k ≤ xs.length) (hj : j < xs.length) : ∃ u, (rowI xs k)[j]? = some u := ⟨_, List.getElem?_eq_getElem (by rw [rowI_len xs k hk]; exact hj)⟩
set_option maxHeartbeats 1000000 in
theorem toInt64S_any (v : Value) (xs : List Int) (w : World) (h : IIn w v xs) (hn : xs.length ≤ 1048576) : Calls Tryd.prog 19 #[v] w
    fun e w' => ∃ g, e = .returned (.slice (some ⟨g, 0, none⟩) xs.length xs.length) ∧ w.heap.size ≤ g ∧ w'.ownsRow w.heap.size 2 1 (.slice (some ⟨g, 0, none⟩) xs.length xs.length) xs.length (xs.map (Value.int .i64)) ∧ Below w.heap.size w w' := by
  obtain ⟨i0, hi, hz0, hz1, hz2⟩ := info_parts info_i64
  have hb2 : i0.bytes * xs.length ≤ 281474976710656 := by rw [hz2]; omega
  have hb3 : xs.length ≤ maxLen := by unfold maxLen; omega
  obtain ⟨a, cap, rfl, he⟩ := h
  have hsrc : ∀ k, k < xs.length → ∃ b o, a = some ⟨b, o, none⟩ ∧ b < w.heap.size ∧ w.cell? ⟨b, o + k, none⟩ = some (.int .i64 (xs.getD k 0)) := by
    intro k hk
    rcases he with rfl | ⟨b, o, ha, hc⟩
    · simp at hk
    · exact ⟨b, o, ha, World.block_lt_of_cell? w _ (hc k hk), hc k hk⟩
  clear he
  go_enter Tryd.func19, Tryd.ntmps19
  go_wp2_with (at_make; refine wpList_make_full _ rfl _ _ 25 rfl w.heap.size 2 i0 (.int .i64 0) 1 Tryd.underlying25 hi hz0 hz1 .i64 .i64 _ _ xs.length rfl rfl rfl rfl hb2 hb3 (Nat.le_refl _) ?_; intro w1 hown hgrow)
  rw [rowI_zero] at hown
  have hbl := (bl_refl w).grown hgrow (Nat.le_refl _) (fun k hk => by cases hk)
  clear hgrow
  go_loopw [4] (fun i wr => ∃ k : Nat, k ≤ xs.length ∧ i = .int .i64 k ∧ wr.ownsRow w.heap.size 2 1 (.slice (some ⟨w.heap.size, 0, none⟩) xs.length xs.length) xs.length (rowI xs k) ∧ Below w.heap.size w wr) (fun i _ => xs.length - (intOf i).toNat)
  case atStart => exact ⟨0, Nat.zero_le _, rfl, hown, hbl⟩
  case round =>
    obtain ⟨k, hk, rfl, hown', hbl'⟩ := hrel
    by_cases hlt : k < xs.length
    · obtain ⟨b, o, rfl, hb, hcell⟩ := hsrc k hlt
      have hcell' := (hbl'.cell (p := ⟨b, o + k, none⟩) hb).trans hcell
      obtain ⟨u, hu⟩ := rowI_get xs k k hk hlt
      have hd := (hown'.cellAt k (by omega)).trans hu
      have hf := hown'.frozenAt k
      have hst := hown'.stored k (.int .i64 xs[k])
      rw [rowI_set xs k hlt] at hst
      clear hsrc hown hbl
      go_wp2
      go_roundw
      case rel => exact ⟨k + 1, by omega, by go_num, hst.1, hbl'.setCell (Nat.le_refl _) _⟩
      case measure => simp [intOf]; omega
    · obtain rfl : k = xs.length := by omega
      rw [rowI_full] at hown'
      clear hsrc
      go_wp2
      go_ret
      exact ⟨_, rfl, Nat.le_refl _, hown', hbl'⟩
section
open Go.WideShapes Go.ChangeShapes Go.Deep
variable {H : Type} {enc : TypeId × Value → H} {P : Program} {w : World} {base : Nat} {spare : Nat → Bool} {held : Bool}
theorem open_i64sb {r : Reach} {b0 : Nat} {t e : TypeId} {v : Value} {d : DataW H} {p : List MemPlace} (ht : P.underlying t = some (.slice e)) (he : P.underlying e = some (.int .i64)) (hc : P.cellsOf e = 1)
    (hv : Value.okWide P w r b0 t v) (h : DataW.Trod enc P w base spare held t v d p) : ∃ xs, IIn w v xs ∧ ∀ x ∈ xs, (Lit.int IntKind.i64 x).wf = true := by
  obtain ⟨a0, len, cap, rfl⟩ := okWide_slice ht hv
  obtain ⟨fuel, hf⟩ := h
  rcases open_slice1 ht hc hf with ⟨hcs, _⟩ | ⟨a, l, c, m, n, V, D, Pl, hcs, _, hl, _, hm, _, hx⟩
  · simp [Value.cells] at hcs
    obtain ⟨rfl, rfl, rfl⟩ := hcs
    exact ⟨[], ⟨none, 0, rfl, .inl rfl⟩, by simp⟩
  · simp [Value.cells] at hcs
    obtain ⟨rfl, rfl, rfl⟩ := hcs
    have hle : len ≤ m := by rw [hm]; split <;> omega
    have each : ∀ i, i < len → ∃ b, w.cell? (a.add i) = some (.int .i64 b) ∧ (Lit.int IntKind.i64 b).wf = true := by
      intro i hi
      obtain ⟨h1, h2⟩ := hx i (by omega)
      obtain ⟨b, hb, _, hlt⟩ := DataW.trod_int he h2
      simp only [List.cons.injEq, and_true] at hb
      exact ⟨b, by rw [h1, hb], hlt⟩
    obtain ⟨xs, hxl, hxs⟩ := list_of 0 len each
    subst hxl
    refine ⟨xs, ⟨some a, cap, rfl, ?_⟩, fun x hx => ?_⟩
    · rcases Nat.eq_zero_or_pos xs.length with h0 | h0
      · exact .inl (List.length_eq_zero_iff.1 h0)
      · have hs := cell_spot (by have := (hxs 0 h0).1; rwa [add_zero'] at this)
        obtain ⟨b, o, s⟩ := a
        simp only at hs
        subst hs
        exact .inr ⟨b, o, rfl, fun i hi => by rw [← add_eq]; exact (hxs i hi).1⟩
    · obtain ⟨i, hi, rfl⟩ := List.mem_iff_getElem.1 hx
      have := (hxs i hi).2
      simpa [List.getD, hi] using this
end
def okI (n : Int) : Bool := inB n (-1000000000000000) 1000000000000000
def listB (zs : List Int) : Bool := zs.all okI && decide (zs.length ≤ 64)
theorem okI_bd {n : Int} (h : okI n = true) : -1000000000000000 ≤ n ∧ n ≤ 1000000000000000 := by simpa [okI, inB] using h
theorem all_step {zs : List Int} {k : Nat} {z : Int} (hk : k < zs.length) (hz : zs.getD k 0 = z) (h : (zs.take k).all okI = true) (hb : okI z = true) : (zs.take (k + 1)).all okI = true := by
  have e : zs[k] = z := by rw [← hz]; simp [hk]
  rw [List.take_succ_eq_append_getElem hk, List.all_append, h, e]; simp [hb]
theorem all_no {zs : List Int} {k : Nat} {z : Int} (hk : k < zs.length) (hz : zs.getD k 0 = z) (hb : okI z = false) : listB zs = false := by
  have e : zs[k] = z := by rw [← hz]; simp [hk]
  have : zs.all okI = false := by
    rw [List.all_eq_false]
    exact ⟨zs[k], List.getElem_mem hk, by rw [e, hb]; simp⟩
  simp [listB, this]
theorem all_yes {zs : List Int} {k : Nat} (hk : k = zs.length) (h : (zs.take k).all okI = true) : zs.all okI = true := by
  rw [hk, List.take_of_length_le (Nat.le_refl _)] at h; exact h
theorem long_no {zs : List Int} (h : 64 < zs.length) : listB zs = false := by
  have : decide (zs.length ≤ 64) = false := by simp; omega
  simp [listB, this]
theorem listB_parts {zs : List Int} (h : listB zs = true) : zs.all okI = true ∧ zs.length ≤ 64 := by simpa [listB] using h
theorem src_of {w : World} {a : Option Addr} {zs : List Int} (he : zs = [] ∨ ∃ b o, a = some ⟨b, o, none⟩ ∧ ∀ i, i < zs.length → w.cell? ⟨b, o + i, none⟩ = some (.int .i64 (zs.getD i 0))) :
    ∀ k, k < zs.length → ∃ b o, a = some ⟨b, o, none⟩ ∧ b < w.heap.size ∧ w.cell? ⟨b, o + k, none⟩ = some (.int .i64 (zs.getD k 0)) := by
  intro k hk
  rcases he with rfl | ⟨b, o, ha, hc⟩
  · simp at hk
  · exact ⟨b, o, ha, World.block_lt_of_cell? w _ (hc k hk), hc k hk⟩
set_option maxHeartbeats 1000000 in
theorem l01List_any (v : Value) (zs : List Int) (w : World) (h : IIn w v zs) (hn : zs.length ≤ 1048576) : Calls Tryd.prog 36 #[v] w fun e w' => e = .returned (.bool (listB zs)) ∧ w = w' := by
  obtain ⟨a, cap, rfl, he⟩ := h
  have hsrc := Lib.hid (src_of he)
  clear he
  go_enter Tryd.func36, Tryd.ntmps36
  go_wp2_with fail
  go_loopw [3] (fun i wr => ∃ k : Nat, k ≤ zs.length ∧ i = .int .i64 k ∧ w = wr ∧ RowKit.Hid ((zs.take k).all okI = true)) (fun i _ => zs.length - (intOf i).toNat)
  case atStart => exact ⟨0, Nat.zero_le _, rfl, rfl, Lib.hid rfl⟩
  case round =>
    obtain ⟨k, hk, rfl, rfl, ha⟩ := hrel
    by_cases hlt : k < zs.length
    · obtain ⟨b, o, rfl, _, hc⟩ := hsrc.out k hlt
      obtain ⟨z, hz⟩ : ∃ z, zs.getD k 0 = z := ⟨_, rfl⟩
      rw [hz] at hc
      have Hz := Lib.hid hz
      clear hz
      cases hB : inB z (-1000000000000000) 1000000000000000
      · have HN := Lib.hid (all_no hlt Hz.out hB)
        go_wp2_with (go_at_call 43; refine (l00In_any _ _ _ _).mono ?_; rintro e w' ⟨rfl, rfl⟩)
        go_ret
        exact ⟨ret_bool HN.out.symm, rfl⟩
      · have HS := Lib.hid (all_step hlt Hz.out ha.out hB)
        go_wp2_with (go_at_call 43; refine (l00In_any _ _ _ _).mono ?_; rintro e w' ⟨rfl, rfl⟩)
        go_roundw
        case rel => exact ⟨k + 1, by omega, by go_num, by first | rfl | trivial, HS⟩
        case measure => simp [intOf]; omega
    · have HA := Lib.hid (all_yes (show k = zs.length by omega) ha.out)
      by_cases h64 : zs.length ≤ 64
      · have HL := Lib.hid (show listB zs = true by simp [listB, HA.out, h64])
        have hd : decide ((zs.length : Int) ≤ 64) = true := by simp; omega
        go_wp2_with fail
        go_ret
        exact ⟨ret_bool HL.out.symm, rfl⟩
      · have HL := Lib.hid (long_no (show 64 < zs.length by omega))
        have hd : decide ((zs.length : Int) ≤ 64) = false := by simp; omega
        go_wp2_with fail
        go_ret
        exact ⟨ret_bool HL.out.symm, rfl⟩

def textI (zs : List Int) : List UInt8 := joinT (zs.map Lib.itoa)
theorem join_snoc' (xs : List (List UInt8)) (y sep : List UInt8) (h : xs ≠ []) : Lib.join (xs ++ [y]) sep = Lib.join xs sep ++ (sep ++ y) := by
  match xs, h with
  | x :: r, _ => rw [List.cons_append, Lib.join_cons, Lib.join_cons]; simp [Lib.joinTail]
theorem textI_one (x : Int) : textI [x] = Lib.itoa x := by simp [textI, joinT, Lib.join_one]
theorem textI_snoc (zs : List Int) (k : Nat) (z : Int) (h1 : 1 ≤ k) (hk : k < zs.length) (hz : zs.getD k 0 = z) : textI (zs.take (k + 1)) = textI (zs.take k) ++ ([44] ++ Lib.itoa z) := by
  have e : zs[k] = z := by rw [← hz]; simp [hk]
  have hne : (zs.take k).map Lib.itoa ≠ [] := by
    intro h; have := congrArg List.length h; rw [List.length_map, List.length_take] at this; simp only [List.length_nil] at this; omega
  unfold textI
  rw [List.take_succ_eq_append_getElem hk, List.map_append, e]
  unfold joinT
  rw [if_neg (by simp), if_neg hne]
  exact join_snoc' _ _ [44] hne
theorem itoa_le {n : Int} (h0 : -9223372036854775808 ≤ n) (h1 : n ≤ 9223372036854775807) : (Lib.itoa n).length ≤ 20 := by
  unfold Lib.itoa
  split
  · have := dec_len (u := n.natAbs) (by omega)
    rw [List.length_cons]; omega
  · have := dec_len (u := n.toNat) (by omega)
    omega
theorem tail_le : ∀ r : List Int, r.all okI = true → (Lib.joinTail [44] (r.map Lib.itoa)).length ≤ 21 * r.length
  | [], _ => by simp [Lib.joinTail]
  | y :: r, h => by
    rw [List.all_cons, Bool.and_eq_true] at h
    have hy := okI_bd h.1
    have hl := itoa_le (n := y) (by omega) (by omega)
    have e : Lib.joinTail [44] ((y :: r).map Lib.itoa) = ([44] ++ Lib.itoa y) ++ Lib.joinTail [44] (r.map Lib.itoa) := by simp [Lib.joinTail]
    have := tail_le r h.2
    rw [e, List.length_append, List.length_append, List.length_cons]
    simp; omega
theorem join_le (zs : List Int) (h : zs.all okI = true) : (Lib.join (zs.map Lib.itoa) [44]).length ≤ 21 * zs.length + 4 := by
  match zs, h with
  | [], _ => simp [Lib.join_nil]
  | y :: r, h =>
    rw [List.all_cons, Bool.and_eq_true] at h
    have hy := okI_bd h.1
    have hl := itoa_le (n := y) (by omega) (by omega)
    have := tail_le r h.2
    rw [List.map_cons, Lib.join_cons, List.length_append, List.length_cons]
    omega
theorem textI_le (zs : List Int) (h : zs.all okI = true) : (textI zs).length ≤ 21 * zs.length + 4 := by
  unfold textI joinT
  split
  · simp
  · exact join_le zs h
theorem str_step' (a b : List UInt8) : (⟨a.toArray⟩ : ByteArray) ++ ((⟨#[44]⟩ : ByteArray) ++ ⟨b.toArray⟩) = ⟨(a ++ ([44] ++ b)).toArray⟩ := by
  rw [← ba_app, ← ba_app]
theorem ret_str' {a b : ByteArray} (h : a = b) : Ending.returned (.string a) = .returned (.string b) := by rw [h]
theorem all_get {zs : List Int} {k : Nat} {z : Int} (h : zs.all okI = true) (hk : k < zs.length) (hz : zs.getD k 0 = z) : -1000000000000000 ≤ z ∧ z ≤ 1000000000000000 := by
  have e : zs[k] = z := by rw [← hz]; simp [hk]
  rw [← e]
  exact okI_bd (List.all_eq_true.1 h _ (List.getElem_mem hk))
theorem all_take {zs : List Int} (h : zs.all okI = true) (k : Nat) : (zs.take k).all okI = true := by
  rw [List.all_eq_true] at h ⊢
  exact fun x hx => h x (List.mem_of_mem_take hx)
set_option maxHeartbeats 1000000 in
theorem l01Text_any (v : Value) (zs : List Int) (w : World) (h : IIn w v zs) (hall : zs.all okI = true) (hn : zs.length ≤ 64) : Calls Tryd.prog 37 #[v] w fun e w' => e = .returned (.string ⟨(textI zs).toArray⟩) ∧ Below w.heap.size w w' := by
  obtain ⟨a, cap, rfl, he⟩ := h
  have hsrc := Lib.hid (src_of he)
  clear he
  have Hall := Lib.hid hall
  clear hall
  by_cases h0 : zs.length = 0
  · obtain rfl : zs = [] := List.eq_nil_of_length_eq_zero h0
    go_enter Tryd.func37, Tryd.ntmps37
    go_wp2
    go_ret
    exact ⟨rfl, bl_refl _⟩
  · obtain ⟨b, o, rfl, hb, hc0⟩ := hsrc.out 0 (by omega)
    have hz : ((zs.length : Int) == 0) = false := by simp; intro e; subst e; exact h0 rfl
    have hl0 : (0 : Int) < zs.length := by omega
    obtain ⟨z0, hz0⟩ : ∃ z, zs.getD 0 0 = z := ⟨_, rfl⟩
    rw [hz0, Nat.add_zero] at hc0
    have ⟨hx0, hx1⟩ := all_get Hall.out (by omega) hz0
    have T1 := Lib.hid (show textI (zs.take 1) = Lib.itoa z0 by
      match zs, h0, hz0 with
      | x :: r, _, hz0 => simp at hz0; subst hz0; exact textI_one x)
    clear hz0
    have hl00 := itoa_le (n := z0) (by omega) (by omega)
    go_enter Tryd.func37, Tryd.ntmps37
    go_wp2_with (go_at_call 34; refine (l01Dec_any z0 (by omega) (by omega) _).mono ?_; rintro e w1 ⟨rfl, hb1⟩)
    clear hc0 hx0 hx1 hl00
    go_loopw [3, 4] (fun s i wr => ∃ k : Nat, 1 ≤ k ∧ k ≤ zs.length ∧ i = .int .i64 k ∧ s = .string ⟨(textI (zs.take k)).toArray⟩ ∧ Below w.heap.size w wr) (fun _ i _ => zs.length - (intOf i).toNat)
    case atStart => exact ⟨1, by omega, by omega, rfl, by rw [T1.out], hb1⟩
    case round =>
      clear hb1
      obtain ⟨k, hk1, hk, rfl, rfl, hbw⟩ := hrel
      by_cases hlt : k < zs.length
      · obtain ⟨b', o', hab, _, hck⟩ := hsrc.out k hlt
        obtain ⟨rfl, rfl⟩ : b = b' ∧ o = o' := by
          injection hab with hab
          injection hab with h1 h2
          exact ⟨h1, h2⟩
        clear hab
        have hcell := (hbw.cell (p := ⟨b, o + k, none⟩) hb).trans hck
        clear hck
        obtain ⟨z, hz⟩ : ∃ z, zs.getD k 0 = z := ⟨_, rfl⟩
        rw [hz] at hcell
        have ⟨hx0, hx1⟩ := all_get Hall.out hlt hz
        have TS := Lib.hid (textI_snoc zs k z hk1 hlt hz)
        clear hz
        have hT : (textI (zs.take k)).length ≤ 16777216 := by have := textI_le _ (all_take Hall.out k); rw [List.length_take] at this; omega
        have hX := itoa_le (n := z) (by omega) (by omega)
        go_wp2_with (go_at_call 34; refine (l01Dec_any z (by omega) (by omega) _).mono ?_; rintro e w1 ⟨rfl, hb1⟩)
        go_roundw
        case rel => exact ⟨k + 1, by omega, by omega, by go_num, by rw [TS.out, str_step'], bl_call hbw hb1⟩
        case measure => simp [intOf]; omega
      · have TF := Lib.hid (show zs.take k = zs from List.take_of_length_le (by omega))
        go_wp2
        go_ret
        exact ⟨ret_str' (by rw [TF.out]), hbw⟩
def listS (zs : List Int) : ByteArray := if listB zs = true then ⟨(textI zs).toArray⟩ else ⟨#[]⟩
def LT (w : World) (zs : List Int) : Ending → World → Prop := fun e w' => e = .returned (.tuple #[.string (listS zs), .bool (listB zs)]) ∧ Below w.heap.size w w'
theorem LT_yes {w w' : World} {zs : List Int} (h : listB zs = true) (hb : Below w.heap.size w w') : LT w zs (.returned (.tuple #[.string ⟨(textI zs).toArray⟩, .bool true])) w' := ⟨by unfold listS; rw [if_pos h, h], hb⟩
theorem LT_no {w w' : World} {zs : List Int} (h : listB zs = false) (hb : Below w.heap.size w w') : LT w zs (.returned (.tuple #[.string ⟨#[]⟩, .bool false])) w' := ⟨by unfold listS; rw [h]; rfl, hb⟩
theorem spec_ListText_any (v : Value) (zs : List Int) (w : World) (h : IIn w v zs) (hn : zs.length ≤ 1048576) : Calls Tryd.prog 18 #[v] w (LT w zs) := by
  have h' := h
  obtain ⟨a, cap, rfl, _⟩ := h'
  cases hB : listB zs
  · have HB := Lib.hid hB
    go_enter Tryd.func18, Tryd.ntmps18
    go_wp2_with (go_at_call 36; refine (l01List_any _ _ _ h hn).mono ?_; rintro e w' ⟨rfl, rfl⟩)
    go_ret2
    exact LT_no HB.out (bl_refl _)
  · have HB := Lib.hid hB
    obtain ⟨hall, h64⟩ := listB_parts hB
    go_enter Tryd.func18, Tryd.ntmps18
    go_wp2_with (first | (go_at_call 36; refine (l01List_any _ _ _ h hn).mono ?_; rintro e w' ⟨rfl, rfl⟩) | (go_at_call 37; refine (l01Text_any _ _ _ h hall h64).mono ?_; rintro e w1 ⟨rfl, hb1⟩))
    go_ret2
    exact LT_yes HB.out hb1
theorem info_str : (Tryd.prog.info? 9).map (fun i => (i.zero, i.size, i.bytes)) = some (some (.string ByteArray.empty), 1, 16) := by kernel_rfl
def strsI (zs : List Int) : List ByteArray := zs.map fun x => ⟨(Lib.itoa x).toArray⟩
theorem strsI_text (zs : List Int) : joinS (strsI zs) = ⟨(textI zs).toArray⟩ := by
  unfold joinS strsI textI
  rw [List.map_map]; rfl
theorem strsI_snoc (zs : List Int) (k : Nat) (z : Int) (hk : k < zs.length) (hz : zs.getD k 0 = z) : (strsI (zs.take (k + 1))).map Value.string = (strsI (zs.take k)).map Value.string ++ [Value.string ⟨(Lib.itoa z).toArray⟩] := by
  have e : zs[k] = z := by rw [← hz]; simp [hk]
  rw [List.take_succ_eq_append_getElem hk, e]; unfold strsI; rw [List.map_append, List.map_append]; rfl
theorem Decimal_plain (n : Int) (h0 : -9223372036854775808 ≤ n) (h1 : n ≤ 9223372036854775807) (w : World) (ht : Tab w) :
    Calls Tryd.prog 17 #[.int .i64 n] w fun e w' => e = .returned (.string ⟨(Lib.itoa n).toArray⟩) ∧ Below w.heap.size w w' := Decimal_any n h0 h1 w ht
set_option maxHeartbeats 2000000 in
set_option maxRecDepth 20000 in
theorem ListText_any (v : Value) (zs : List Int) (w : World) (h : IIn w v zs) (hn : zs.length ≤ 1048576) (ht : Tab w) : Calls Tryd.prog 20 #[v] w (LT w zs) := by
  obtain ⟨a, cap, rfl, he⟩ := h
  have hsrc := Lib.hid (src_of he)
  clear he
  obtain ⟨i1, hj1, hy0, hy1, hy2⟩ := info_parts info_str
  go_enter Tryd.func20, Tryd.ntmps20
  go_wp2_with fail
  have hw0 : Below w.heap.size w (w.alloc (.cells #[] 9)) := bl_alloc (bl_refl w) _
  have hown0 : (w.alloc (.cells #[] 9)).ownsRow w.heap.size 9 1 (.slice (some ⟨w.heap.size, 0, none⟩) 0 0) 0 [] := World.ownsRow_lit w #[] 0 (Nat.le_refl _) (by unfold maxLen; omega) rfl
  go_loopw [4, 10] (fun p i wr => ∃ (k : Nat) (pv : Value), pv = p ∧ k ≤ zs.length ∧ k ≤ 64 ∧ i = .int .i64 k ∧ (∃ a c, pv = .slice a k c) ∧ wr.ownsRow w.heap.size 9 1 pv k ((strsI (zs.take k)).map Value.string) ∧ Below w.heap.size w wr ∧ RowKit.Hid ((zs.take k).all okI = true)) (fun _ i _ => zs.length - (intOf i).toNat)
  case atStart => exact ⟨0, _, rfl, Nat.zero_le _, by omega, rfl, ⟨_, _, rfl⟩, hown0, hw0, Lib.hid rfl⟩
  case round =>
    clear hown0 hw0
    obtain ⟨k, pv, rfl, hk, hk64, rfl, ⟨pa, pc, rfl⟩, hpo, hbw, ha⟩ := hrel
    by_cases hlt : k < zs.length
    · obtain ⟨b, o, rfl, hbl, hc⟩ := hsrc.out k hlt
      have hcell := (hbw.cell (p := ⟨b, o + k, none⟩) hbl).trans hc
      clear hc
      obtain ⟨z, hz⟩ : ∃ z, zs.getD k 0 = z := ⟨_, rfl⟩
      rw [hz] at hcell
      have Hz := Lib.hid hz
      clear hz
      cases hB : inB z (-1000000000000000) 1000000000000000
      · have HN := Lib.hid (all_no hlt Hz.out hB)
        clear hpo
        go_wp2_with (go_at_call 31; refine (in_any _ _ _ _).mono ?_; rintro e w' ⟨rfl, rfl⟩)
        go_ret2
        exact LT_no HN.out hbw
      · by_cases h64 : k = 64
        · subst h64
          have HN := Lib.hid (long_no hlt)
          clear hpo
          go_wp2_with (go_at_call 31; refine (in_any _ _ _ _).mono ?_; rintro e w' ⟨rfl, rfl⟩)
          go_ret2
          exact LT_no HN.out hbw
        · have h64' : ((k : Int) == 64) = false := by simp; omega
          have HS := Lib.hid (all_step hlt Hz.out ha.out hB)
          have SN := Lib.hid (strsI_snoc zs k z hlt Hz.out)
          have hbd := okI_bd (n := z) hB
          have ht1 := ht.below hbw
          go_wp2_with (first | (go_at_call 31; refine (in_any _ _ _ _).mono ?_; rintro e w' ⟨rfl, rfl⟩) | (go_at_call 17; refine (Decimal_plain z (by omega) (by omega) _ ht1).mono ?_; rintro e w1 ⟨rfl, hb1⟩; have hpo1 := own_below hpo hb1; have hbw1 := bl_call hbw hb1; have hsz := hbw1.size) | (at_builtin; refine wpList_append_own _ rfl (.tmp 22) (.tmp 25) 52 rfl w.heap.size 9 i1 (.string ByteArray.empty) 1 16 Tryd.underlying52 hj1 hy0 hy1 hy2 rfl (by decide) _ k _ rfl (hpo1.alloc _) ⟨w1.heap.size, 0, none⟩ 1 1 [.string ⟨(Lib.itoa z).toArray⟩] rfl rfl (new1 w1 _ _) (one1 rfl) (by unfold maxLen; omega) (by omega) (by simp; omega) ?_; intro v' w2 hown' hgrow _))
          have hb2 := grown_below (bl_alloc hbw1 _) (hpo1.alloc _) (Nat.le_refl _) hgrow
          have hform : ∃ a c, v' = .slice a (k + 1) c := by
            obtain ⟨g, c, e, _⟩ := hown'.form (by omega)
            exact ⟨_, c, e⟩
          clear hgrow hpo hpo1
          go_roundw
          case rel => exact ⟨k + 1, _, rfl, by omega, by omega, by go_num, hform, by rw [SN.out]; exact hown', hb2, HS⟩
          case measure => simp [intOf]; omega
    · have hkl : k = zs.length := by omega
      have HA := Lib.hid (all_yes hkl ha.out)
      have TF := Lib.hid (show zs.take k = zs from List.take_of_length_le (by omega))
      have HL := Lib.hid (show listB zs = true by simp [listB, HA.out]; omega)
      rw [TF.out] at hpo
      have hlen : (Lib.join ((strsI zs).map (·.data.toList)) [44]).length ≤ 140737488355328 := by
        have h1 := join_le zs HA.out
        have h2 : (strsI zs).map (·.data.toList) = zs.map Lib.itoa := by unfold strsI; rw [List.map_map]; rfl
        rw [h2]; omega
      have HJ := Lib.hid (joined_any _ k (strsI zs) wr w.heap.size (by simp [strsI]; omega) hpo (by simp [strsI]; omega) hlen)
      clear hlen hkl hpo
      go_wp2_with (go_at_call 38; refine (Calls.mono (by exact HJ.out) ?_); rintro e w1 ⟨rfl, hb⟩)
      go_ret2
      have e2 := strsI_text zs
      rw [e2]
      exact LT_yes HL.out (bl_call hbw hb)
end Go.Proofs.YtncmpbgekmaoeaaDoor
