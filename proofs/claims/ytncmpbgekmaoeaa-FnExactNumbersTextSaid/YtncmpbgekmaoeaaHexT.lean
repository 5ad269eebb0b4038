/- The text of numbers in hexadecimal digits. No conditions but bounds. -/
import Derived.Test.YtncmpbgekmaoeaaText
import Derived.Test.YtncmpbgekmaoeaaSl
import Derived.Laws.BitsAllLaws
namespace Go.Proofs.Ytncmpbgekmaoeaa
open Go.Fl Go.RowKit

def hexB : ByteArray := ⟨#[48, 49, 50, 51, 52, 53, 54, 55, 56, 57, 97, 98, 99, 100, 101, 102]⟩
def dig (d : Nat) : UInt8 := hexB.data.toList.getD d 0
def hexAt (b j : Nat) : Nat := b / 2 ^ (28 - 4 * j) % 16
def hexP (b k : Nat) : List UInt8 := (List.range k).map fun j => dig (hexAt b j)
theorem hexP_succ (b k : Nat) : hexP b (k + 1) = hexP b k ++ [dig (hexAt b k)] := by simp [hexP, List.range_succ]
theorem hexP_len (b k : Nat) : (hexP b k).length = k := by simp [hexP]
def hexL (x : Nat) : List UInt8 := hexP (Fl.cn .f32 x) 8
theorem hex_digit {b j : Nat} {k : Int} (hb : b < 4294967296) (hk : k = 28 - 4 * (j : Int)) (hj : j < 8) : bits .and .i64 ((b : Int) / 2 ^ k.toNat) 15 = ((hexAt b j : Nat) : Int) := by
  have e : k.toNat = 28 - 4 * j := by omega
  rw [e]
  have hd : ((b : Int) / 2 ^ (28 - 4 * j)) = ((b / 2 ^ (28 - 4 * j) : Nat) : Int) := by
    rw [Int.natCast_ediv, Int.natCast_pow]; rfl
  have hle : b / 2 ^ (28 - 4 * j) ≤ b := Nat.div_le_self _ _
  rw [hd, show (15 : Int) = ((15 : Nat) : Int) from rfl, i64_and_nat _ 15 (by omega) (by omega)]
  congr 1
  exact Nat.and_two_pow_sub_one_eq_mod _ 4
theorem hexAt_lt (b j : Nat) : hexAt b j < 16 := Nat.mod_lt _ (by omega)
theorem hex_at {d : Nat} (h' : d < hexB.size) : hexB[d] = dig d := by
  unfold dig
  rw [List.getD_eq_getElem?_getD, List.getElem?_eq_getElem (by simpa using h')]
  rfl
theorem info_u8 : (Try.prog.info? 5).map (fun i => (i.zero, i.size, i.bytes)) = some (some (.int .u8 0), 1, 1) := by kernel_rfl
theorem bits_nat (x : Nat) (hx : x < 4294967296) : ∃ b : Nat, RowKit.Hid (bitsI x = (b : Int)) ∧ RowKit.Hid (b = Fl.cn .f32 x) ∧ b < 4294967296 := ⟨Fl.cn .f32 x, Lib.hid rfl, Lib.hid rfl, cn_lt32 hx⟩

set_option maxHeartbeats 1000000 in
theorem l01Hex_any (x : Nat) (hx : x < 4294967296) (w : World) : Calls Try.prog 23 #[.float .f32 x] w fun e w' => e = .returned (.string ⟨(hexL x).toArray⟩) ∧ Below w.heap.size w w' := by
  obtain ⟨i0, hi, hz0, hz1, hz2⟩ := info_parts info_u8
  obtain ⟨b, hb, hbx, hblt⟩ := bits_nat x hx
  have hbi : (b : Int) ≤ 4294967295 := by omega
  go_enter Try.func23, Try.ntmps23
  go_wp2_with (go_at_call 27; refine (l01Bits_any _ hx _).mono ?_; rintro e w' ⟨rfl, n, rfl⟩)
  rw [hb.out]
  have hw0 : Below w.heap.size w ((w.drewN n).alloc (.cells #[] 5)) := bl_alloc (bl_drewN (bl_refl w) n) _
  have hown0 : ((w.drewN n).alloc (.cells #[] 5)).ownsRow w.heap.size 5 1 (.slice (some ⟨w.heap.size, 0, none⟩) 0 0) 0 [] := World.ownsRow_lit (w.drewN n) #[] 0 (Nat.le_refl _) (by unfold maxLen; omega) rfl
  go_loopw [4, 5] (fun v ks wr => ∃ (j : Nat) (k : Int) (vv : Value), vv = v ∧ RowKit.Hid (k = 28 - 4 * (j : Int)) ∧ j ≤ 8 ∧ -4 ≤ k ∧ k ≤ 28 ∧ ks = .int .i64 k ∧ wr.ownsRow w.heap.size 5 1 vv j ((hexP b j).map byteV) ∧ Below w.heap.size w wr) (fun _ k _ => (intOf k + 4).toNat)
  case atStart => exact ⟨0, 28, _, rfl, Lib.hid (by omega), by omega, by omega, by omega, rfl, hown0, hw0⟩
  case round =>
    clear hown0 hw0
    obtain ⟨j, k, vv, rfl, hk, hj, hk1, hk2, rfl, hown, hbw⟩ := hrel
    by_cases hge : 0 ≤ k
    · have hj2 : j < 8 := by have := hk.out; omega
      have hd := hex_digit hblt hk.out hj2
      have hd16 := hexAt_lt b j
      have hsz := hbw.size
      go_wp2_with (at_builtin; refine wpList_append_own _ rfl (.tmp 13) (.tmp 20) 37 rfl w.heap.size 5 i0 (.int .u8 0) 1 1 Try.underlying37 hi hz0 hz1 hz2 rfl (by decide) _ j _ rfl (hown.alloc _) ⟨wr.heap.size, 0, none⟩ 1 1 [byteV (dig (hexAt b j))] rfl rfl (by rw [← hex_at hd16]; exact new1 wr _ _) (one1 rfl) (by unfold maxLen; omega) (by omega) (by simp; omega) ?_; intro v' w1 hown' hgrow _)
      have hb2 := grown_below (bl_alloc hbw _) (hown.alloc _) (Nat.le_refl _) hgrow
      clear hgrow hown
      go_roundw
      case rel => exact ⟨j + 1, k - 4, _, rfl, Lib.hid (by have := hk.out; omega), by omega, by omega, by omega, rfl, by rw [hexP_succ, List.map_append]; exact hown', hb2⟩
      case measure => simp [intOf]; omega
    · obtain rfl : j = 8 := by have := hk.out; omega
      have hrow : wr.ownsRow w.heap.size 5 1 vv (hexP b 8).length ((hexP b 8).map byteV) := by rw [hexP_len]; exact hown
      obtain ⟨g, cap, rfl, hcv⟩ := text_of_row (P := Try.prog) (src := 37) (dst := 9) Try.underlying37 Try.underlying5 Try.underlying9 hrow (by rw [hexP_len]; omega)
      clear hown hrow
      have HX := Lib.hid (show hexL x = hexP b 8 by unfold hexL; rw [hbx.out])
      go_wp2_with fail
      go_ret
      exact ⟨by rw [HX.out]; rfl, hbw⟩
theorem join_snoc (xs : List (List UInt8)) (y sep : List UInt8) (h : xs ≠ []) : Lib.join (xs ++ [y]) sep = Lib.join xs sep ++ (sep ++ y) := by
  match xs, h with
  | x :: r, _ => rw [List.cons_append, Lib.join_cons, Lib.join_cons]; simp [Lib.joinTail]
theorem joinT_snoc (xs : List (List UInt8)) (y : List UInt8) (h : xs ≠ []) : joinT (xs ++ [y]) = joinT xs ++ ([44] ++ y) := by
  unfold joinT
  rw [if_neg (by simp), if_neg h, join_snoc xs y [44] h]
def textN (xs : List Nat) : List UInt8 := joinT (xs.map hexL)
theorem textN_one (x : Nat) : textN [x] = hexL x := by simp [textN, joinT, Lib.join_one]
theorem textN_snoc (xs : List Nat) (k : Nat) (h1 : 1 ≤ k) (hk : k < xs.length) : textN (xs.take (k + 1)) = textN (xs.take k) ++ ([44] ++ hexL (xs.getD k 0)) := by
  unfold textN
  have e : xs.getD k 0 = xs[k] := by simp [hk]
  rw [take_snoc xs k hk, List.map_append, e]
  exact joinT_snoc _ _ (by intro h; have := congrArg List.length h; rw [List.length_map, List.length_take] at this; simp only [List.length_nil] at this; omega)
theorem hexL_len (x : Nat) : (hexL x).length = 8 := hexP_len _ _
theorem textN_len (xs : List Nat) : (textN xs).length ≤ 9 * xs.length + 4 := by
  match xs with
  | [] => simp [textN, joinT]
  | x :: r =>
    have h : ∀ r : List Nat, (Lib.joinTail [44] (r.map hexL)).length = 9 * r.length := by
      intro r
      induction r with
      | nil => rfl
      | cons y r ih =>
        have e : Lib.joinTail [44] ((y :: r).map hexL) = ([44] ++ hexL y) ++ Lib.joinTail [44] (r.map hexL) := by simp [Lib.joinTail]
        rw [e, List.length_append, List.length_append, hexL_len, ih, List.length_cons]
        simp; omega
    unfold textN joinT
    rw [if_neg (by simp), List.map_cons, Lib.join_cons, List.length_append, hexL_len, h, List.length_cons]
    omega
theorem str_step (a b : List UInt8) : (⟨a.toArray⟩ : ByteArray) ++ ((⟨#[44]⟩ : ByteArray) ++ ⟨b.toArray⟩) = ⟨(a ++ ([44] ++ b)).toArray⟩ := by
  rw [← ba_app, ← ba_app]
theorem ret_str {a b : ByteArray} (h : a = b) : Ending.returned (.string a) = .returned (.string b) := by rw [h]
set_option maxHeartbeats 1000000 in
theorem l01NText_any (v : Value) (xs : List Nat) (w : World) (h : FIn w v xs) (hx : ∀ x ∈ xs, x < 4294967296) (hn : xs.length ≤ 1048576) : Calls Try.prog 18 #[v] w fun e w' => e = .returned (.string ⟨(textN xs).toArray⟩) ∧ Below w.heap.size w w' := by
  obtain ⟨a, cap, rfl, he⟩ := h
  by_cases h0 : xs.length = 0
  · obtain rfl : xs = [] := List.eq_nil_of_length_eq_zero h0
    clear he
    go_enter Try.func18, Try.ntmps18
    go_wp2
    go_ret
    exact ⟨rfl, bl_refl _⟩
  · have he' : ∃ b o, a = some ⟨b, o, none⟩ ∧ ∀ i, i < xs.length → w.cell? ⟨b, o + i, none⟩ = some (.float .f32 (xs.getD i 0)) := by
      rcases he with rfl | he
      · simp at h0
      · exact he
    obtain ⟨b, o, rfl, hc⟩ := he'
    have hg : ∀ i, i < xs.length → xs.getD i 0 < 4294967296 := fun i hi => by rw [show xs.getD i 0 = xs[i] by simp [hi]]; exact hx _ (List.getElem_mem hi)
    have hb := World.block_lt_of_cell? w _ (hc 0 (by omega))
    have hz : ((xs.length : Int) == 0) = false := by simp; intro e; subst e; exact h0 rfl
    have hc0 := hc 0 (by omega)
    have hx0 := hg 0 (by omega)
    have hl0 : (0 : Int) < xs.length := by omega
    have T1 := Lib.hid (show textN (xs.take 1) = hexL (xs.getD 0 0) by
      match xs, h0 with
      | x :: r, _ => exact textN_one x)
    have Hc := Lib.hid hc
    clear he hc hx
    rw [Nat.add_zero] at hc0
    generalize xs.getD 0 0 = x0 at *
    have Hg := Lib.hid hg
    clear hg
    go_enter Try.func18, Try.ntmps18
    go_wp2_with (go_at_call 23; refine (l01Hex_any _ hx0 _).mono ?_; rintro e w1 ⟨rfl, hb1⟩)
    clear hc0
    go_loopw [3, 4] (fun s i wr => ∃ k : Nat, 1 ≤ k ∧ k ≤ xs.length ∧ i = .int .i64 k ∧ s = .string ⟨(textN (xs.take k)).toArray⟩ ∧ Below w.heap.size w wr) (fun _ i _ => xs.length - (intOf i).toNat)
    case atStart => exact ⟨1, by omega, by omega, rfl, by rw [T1.out], hb1⟩
    case round =>
      clear hb1
      obtain ⟨k, hk1, hk, rfl, rfl, hbw⟩ := hrel
      by_cases hlt : k < xs.length
      · have hcell := (hbw.cell (p := ⟨b, o + k, none⟩) hb).trans (Hc.out k hlt)
        have hxk := Hg.out k hlt
        have TS := Lib.hid (textN_snoc xs k hk1 hlt)
        generalize xs.getD k 0 = xk at *
        have hT : (textN (xs.take k)).length ≤ 16777216 := by have := textN_len (xs.take k); rw [List.length_take] at this; omega
        have hX := Nat.le_of_eq (hexL_len xk)
        go_wp2_with (go_at_call 23; refine (l01Hex_any _ hxk _).mono ?_; rintro e w1 ⟨rfl, hb1⟩)
        go_roundw
        case rel => exact ⟨k + 1, by omega, by omega, by go_num, by rw [TS.out, str_step], bl_call hbw hb1⟩
        case measure => simp [intOf]; omega
      · have TF := Lib.hid (show xs.take k = xs from List.take_of_length_le (by omega))
        go_wp2
        go_ret
        exact ⟨ret_str (by rw [TF.out]), hbw⟩
def numTxt (xs : List Nat) : ByteArray := if xs.length ≤ 256 then ⟨(textN xs).toArray⟩ else ⟨#[]⟩
def fewB (xs : List Nat) : Bool := decide (xs.length ≤ 256)
def NT (w : World) (xs : List Nat) : Ending → World → Prop := fun e w' => e = .returned (.tuple #[.string (numTxt xs), .bool (fewB xs)]) ∧ Below w.heap.size w w'
theorem NT_yes {w w' : World} {xs : List Nat} (h : xs.length ≤ 256) (hb : Below w.heap.size w w') : NT w xs (.returned (.tuple #[.string ⟨(textN xs).toArray⟩, .bool true])) w' := ⟨by unfold numTxt fewB; rw [if_pos h, decide_eq_true h], hb⟩
theorem NT_no {w w' : World} {xs : List Nat} (h : ¬ xs.length ≤ 256) (hb : Below w.heap.size w w') : NT w xs (.returned (.tuple #[.string ⟨#[]⟩, .bool false])) w' := ⟨by unfold numTxt fewB; rw [if_neg h, decide_eq_false h], hb⟩
theorem spec_NumbersText_any (v : Value) (xs : List Nat) (w : World) (h : FIn w v xs) (hx : ∀ x ∈ xs, x < 4294967296) (hn : xs.length ≤ 1048576) : Calls Try.prog 10 #[v] w (NT w xs) := by
  have h' := h
  obtain ⟨a, cap, rfl, _⟩ := h'
  by_cases hf : xs.length ≤ 256
  · have hd : decide ((xs.length : Int) ≤ 256) = true := by simp; omega
    go_enter Try.func10, Try.ntmps10
    go_wp2_with (first | (go_at_call 17; go_in) | (go_at_call 18; refine (l01NText_any _ _ _ h hx hn).mono ?_; rintro e w1 ⟨rfl, hb⟩))
    go_ret2
    exact NT_yes hf hb
  · have hd : decide ((xs.length : Int) ≤ 256) = false := by simp; omega
    go_enter Try.func10, Try.ntmps10
    go_wp2_with (first | (go_at_call 17; go_in))
    go_ret2
    exact NT_no hf (bl_refl _)
theorem info_str : (Try.prog.info? 9).map (fun i => (i.zero, i.size, i.bytes)) = some (some (.string ByteArray.empty), 1, 16) := by kernel_rfl
def strsN (xs : List Nat) : List ByteArray := xs.map fun x => ⟨(hexL x).toArray⟩
theorem strsN_text (xs : List Nat) : joinS (strsN xs) = ⟨(textN xs).toArray⟩ := by
  unfold joinS strsN textN
  rw [List.map_map]; rfl
theorem strsN_snoc (xs : List Nat) (k : Nat) (hk : k < xs.length) : (strsN (xs.take (k + 1))).map Value.string = (strsN (xs.take k)).map Value.string ++ [Value.string ⟨(hexL (xs.getD k 0)).toArray⟩] := by
  have e : xs.getD k 0 = xs[k] := by simp [hk]
  rw [e, take_snoc xs k hk]; unfold strsN; rw [List.map_append, List.map_append]; rfl
theorem listOk_any (a : Option Addr) (n c : Nat) (b : Bool) (hb : decide ((n : Int) ≤ 256) = b) (w : World) : Calls Try.prog 19 #[.slice a n c] w fun e w' => e = .returned (.bool b) ∧ w = w' := by
  go_enter Try.func19, Try.ntmps19
  go_wp2
  go_ret
  exact ⟨rfl, rfl⟩
set_option maxHeartbeats 2000000 in
theorem NumbersText_any (v : Value) (xs : List Nat) (w : World) (h : FIn w v xs) (hx : ∀ x ∈ xs, x < 4294967296) (hn : xs.length ≤ 1048576) : Calls Try.prog 12 #[v] w (NT w xs) := by
  obtain ⟨a, cap, rfl, he⟩ := h
  by_cases hf : xs.length ≤ 256
  · have hd : decide ((xs.length : Int) ≤ 256) = true := by simp; omega
    have hsrc := Lib.hid (show ∀ k, k < xs.length → ∃ b o, a = some ⟨b, o, none⟩ ∧ b < w.heap.size ∧ w.cell? ⟨b, o + k, none⟩ = some (.float .f32 (xs.getD k 0)) by
      intro k hk
      rcases he with rfl | ⟨b, o, ha, hc⟩
      · simp at hk
      · exact ⟨b, o, ha, World.block_lt_of_cell? w _ (hc k hk), hc k hk⟩)
    have Hx := Lib.hid hx
    clear he hx
    obtain ⟨i0, hi, hz0, hz1, hz2⟩ := info_parts info_u8
    obtain ⟨i1, hj1, hy0, hy1, hy2⟩ := info_parts info_str
    go_enter Try.func12, Try.ntmps12
    go_wp2_with (first | (go_at_call 19; refine (listOk_any _ _ _ _ hd _).mono ?_; rintro e w' ⟨rfl, rfl⟩))
    have hw0 : Below w.heap.size w (w.alloc (.cells #[] 9)) := bl_alloc (bl_refl w) _
    have hown0 : (w.alloc (.cells #[] 9)).ownsRow w.heap.size 9 1 (.slice (some ⟨w.heap.size, 0, none⟩) 0 0) 0 [] := World.ownsRow_lit w #[] 0 (Nat.le_refl _) (by unfold maxLen; omega) rfl
    go_loopw [4, 15] (fun p i wr => ∃ (k : Nat) (pv : Value), pv = p ∧ k ≤ xs.length ∧ i = .int .i64 k ∧ wr.ownsRow w.heap.size 9 1 pv k ((strsN (xs.take k)).map Value.string) ∧ Below w.heap.size w wr) (fun _ i _ => xs.length - (intOf i).toNat)
    case atStart => exact ⟨0, _, rfl, Nat.zero_le _, rfl, hown0, hw0⟩
    case round =>
      clear hown0 hw0
      obtain ⟨k, pv, rfl, hk, rfl, hpo, hbw⟩ := hrel
      by_cases hlt : k < xs.length
      · obtain ⟨b, o, rfl, hbl, hc⟩ := hsrc.out k hlt
        have hcell := (hbw.cell (p := ⟨b, o + k, none⟩) hbl).trans hc
        have hxk : xs.getD k 0 < 4294967296 := by rw [show xs.getD k 0 = xs[k] by simp [hlt]]; exact Hx.out _ (List.getElem_mem hlt)
        have SN := Lib.hid (strsN_snoc xs k hlt)
        clear hc
        generalize xs.getD k 0 = xk at *
        have hb0 : 0 ≤ bitsI xk := Int.natCast_nonneg _
        have hb1 : bitsI xk ≤ 4294967295 := by have := cn_lt32 hxk; unfold bitsI; omega
        go_wp2_with fail
        have hr0 : Below wr.heap.size wr (wr.alloc (.cells #[] 5)) := bl_alloc (bl_refl wr) _
        have ht0 : (wr.alloc (.cells #[] 5)).ownsRow wr.heap.size 5 1 (.slice (some ⟨wr.heap.size, 0, none⟩) 0 0) 0 [] := World.ownsRow_lit wr #[] 0 (Nat.le_refl _) (by unfold maxLen; omega) rfl
        obtain ⟨wo, hwo⟩ : ∃ wo : World, wo = wr := ⟨_, rfl⟩
        subst hwo
        go_loopw [7, 8] (fun v ks wi => ∃ (j : Nat) (s : Int) (vv : Value), vv = v ∧ RowKit.Hid (s = 28 - 4 * (j : Int)) ∧ j ≤ 8 ∧ -4 ≤ s ∧ s ≤ 28 ∧ ks = .int .i64 s ∧ wi.ownsRow wo.heap.size 5 1 vv j ((hexP (Fl.cn .f32 xk) j).map byteV) ∧ Below wo.heap.size wo wi) (fun _ k _ => (intOf k + 4).toNat)
        case atStart => exact ⟨0, 28, _, rfl, Lib.hid (by omega), by omega, by omega, by omega, rfl, ht0, hr0⟩
        case round =>
          clear hr0 ht0
          obtain ⟨j, s, vv, rfl, hs, hj, hs1, hs2, rfl, hown, hbi⟩ := hrel
          by_cases hge : 0 ≤ s
          · have hj2 : j < 8 := by have := hs.out; omega
            have hdg : bits .and .i64 (bitsI xk / 2 ^ s.toNat) 15 = ((hexAt (Fl.cn .f32 xk) j : Nat) : Int) := hex_digit (cn_lt32 hxk) hs.out hj2
            have hd16 := hexAt_lt (Fl.cn .f32 xk) j
            have hsz := hbi.size
            go_wp2_with (first | (go_at_call 20; refine (BitsOf_any _ hxk _).mono ?_; rintro e w' ⟨rfl, n1, rfl⟩) | (at_builtin; refine wpList_append_own _ rfl (.tmp 24) (.tmp 31) 37 rfl wo.heap.size 5 i0 (.int .u8 0) 1 1 Try.underlying37 hi hz0 hz1 hz2 rfl (by decide) _ j _ rfl ((own_drewN hown n1).alloc _) ⟨wr.heap.size, 0, none⟩ 1 1 [byteV (dig (hexAt (Fl.cn .f32 xk) j))] rfl rfl (by rw [← hex_at hd16]; exact new1 (wr.drewN n1) _ _) (one1 rfl) (by unfold maxLen; omega) (by omega) (by simp; omega) ?_; intro v' w1 hown' hgrow _))
            have hb2 := grown_below (bl_alloc (bl_drewN hbi n1) _) ((own_drewN hown n1).alloc _) (Nat.le_refl _) hgrow
            clear hgrow hown
            go_roundw
            case rel => exact ⟨j + 1, s - 4, _, rfl, Lib.hid (by have := hs.out; omega), by omega, by omega, by omega, rfl, by rw [hexP_succ, List.map_append]; exact hown', hb2⟩
            case measure => simp [intOf]; omega
          · obtain rfl : j = 8 := by have := hs.out; omega
            have hrow : wr.ownsRow wo.heap.size 5 1 vv (hexP (Fl.cn .f32 xk) 8).length ((hexP (Fl.cn .f32 xk) 8).map byteV) := by rw [hexP_len]; exact hown
            obtain ⟨g, cap', rfl, hcv⟩ := text_of_row (P := Try.prog) (src := 37) (dst := 9) Try.underlying37 Try.underlying5 Try.underlying9 hrow (by rw [hexP_len]; omega)
            clear hown hrow
            have hpo' := own_below hpo hbi
            have hsz := hbi.size
            have hsz2 := hbw.size
            have hbw2 := bl_call hbw hbi
            go_wp2_with (at_builtin; refine wpList_append_own _ rfl (.tmp 33) (.tmp 36) 36 rfl w.heap.size 9 i1 (.string ByteArray.empty) 1 16 Try.underlying36 hj1 hy0 hy1 hy2 rfl (by decide) _ k _ rfl (hpo'.alloc _) ⟨wr.heap.size, 0, none⟩ 1 1 [.string ⟨(hexL xk).toArray⟩] rfl rfl (new1 wr _ _) (one1 rfl) (by unfold maxLen; omega) (by omega) (by simp; omega) ?_; intro v' w1 hown' hgrow _)
            have hb2 := grown_below (bl_alloc hbw2 _) (hpo'.alloc _) (Nat.le_refl _) hgrow
            clear hgrow hpo hpo'
            go_roundw
            case rel => exact ⟨k + 1, _, rfl, by omega, by go_num, by rw [SN.out]; exact hown', hb2⟩
            case measure => simp [intOf]; omega
      · have TF := Lib.hid (show xs.take k = xs from List.take_of_length_le (by omega))
        have hkl : k = xs.length := by omega
        rw [TF.out] at hpo
        have hlen : (Lib.join ((strsN xs).map (·.data.toList)) [44]).length ≤ 140737488355328 := by
          have h1 := textN_len xs
          have h2 : joinT ((strsN xs).map (·.data.toList)) = textN xs := by unfold strsN textN; rw [List.map_map]; rfl
          rw [← h2] at h1
          unfold joinT at h1
          split at h1
          · rename_i h3; rw [h3]; simp [Lib.join_nil]
          · omega
        have HJ := Lib.hid (joined_any pv k (strsN xs) wr w.heap.size (by simp [strsN]; omega) hpo (by simp [strsN]; omega) hlen)
        clear hlen hkl hpo
        go_wp2_with (go_at_call 21; refine (Calls.mono (by exact HJ.out) ?_); rintro e w1 ⟨rfl, hb⟩)
        go_ret2
        have e2 := strsN_text xs
        rw [e2]
        exact NT_yes hf (bl_call hbw hb)
  · have hd : decide ((xs.length : Int) ≤ 256) = false := by simp; omega
    clear he
    go_enter Try.func12, Try.ntmps12
    go_wp2_with (first | (go_at_call 19; refine (listOk_any _ _ _ _ hd _).mono ?_; rintro e w' ⟨rfl, rfl⟩))
    go_ret2
    exact NT_no hf (bl_refl _)
end Go.Proofs.Ytncmpbgekmaoeaa
