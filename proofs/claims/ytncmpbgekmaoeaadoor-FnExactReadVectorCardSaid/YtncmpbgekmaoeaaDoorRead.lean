/- A decimal number read from its text. No conditions but a bound on the length. -/
import Derived.Test.YtncmpbgekmaoeaaDoorDec
import Derived.Test.YtncmpbgekmaoeaaDoorDecNum
import Derived.Lib.AtoiErrMem
namespace Go.Proofs.YtncmpbgekmaoeaaDoor
open Go.Fl Go.RowKit

def RD (w : World) (l : List UInt8) : Ending → World → Prop := fun e w' => e = .returned (.tuple #[.int .i64 (rdN l), .bool (rdOk l)]) ∧ Below w.heap.size w w'
theorem RD_no {w w' : World} {l : List UInt8} (h : rdOk l = false) (hb : Below w.heap.size w w') : RD w l (.returned (.tuple #[.int .i64 0, .bool false])) w' := ⟨by rw [rd_no h, h], hb⟩
theorem RD_yes {w w' : World} {l : List UInt8} {n : Int} (h : rdOk l = true ∧ rdN l = n) (hb : Below w.heap.size w w') : RD w l (.returned (.tuple #[.int .i64 n, .bool true])) w' := ⟨by rw [h.1, h.2], hb⟩
theorem vN_step {s : ByteArray} {k m : Nat} (hk : k < s.size) (h : m = vN (s.data.toList.take k)) : stp m s[k] = vN (s.data.toList.take (k + 1)) := by
  rw [byte_snoc s k hk, vN_snoc, ← h]
theorem vN_bd (s : ByteArray) {k m : Nat} (hk : k ≤ 17) (h : m = vN (s.data.toList.take k)) : m ≤ 99999999999999999 := by
  have h1 := vN_take_lt s.data.toList k
  have h2 : 10 ^ k ≤ 10 ^ 17 := Nat.pow_le_pow_right (by omega) hk
  omega
theorem ba_val {s : ByteArray} {l : List UInt8} (h : l = s.data.toList) : (⟨l.toArray⟩ : ByteArray) = s := by
  subst h; apply ByteArray.ext; simp
theorem ba_eq {s : ByteArray} {l : List UInt8} (h : l = s.data.toList) : (l == s.toList) = true := by
  rw [ByteArray.toList_eq, h]; exact beq_self_eq_true _
theorem ba_ne {s : ByteArray} {l : List UInt8} (h : ¬ l = s.data.toList) : (l == s.toList) = false := by
  rw [ByteArray.toList_eq]
  simpa using h
theorem head_get {s : ByteArray} (h : 0 < s.size) : s.data.toList.headD 0 = s[0] := by
  have e : s.data.toList[0]? = some s[0] := by
    rw [List.getElem?_eq_getElem (by simpa using h)]; rfl
  cases hl : s.data.toList with
  | nil => rw [hl] at e; simp at e
  | cons c r => rw [hl] at e; simp at e; simpa using e

set_option maxHeartbeats 1000000 in
theorem l01Value_any (s : ByteArray) (hs : s.size ≤ 1048576) (w : World) : Calls Tryd.prog 29 #[.string s] w (RD w s.data.toList) := by
  by_cases h1 : 1 ≤ s.size
  · by_cases h2 : s.size ≤ 17
    · go_enter Tryd.func29, Tryd.ntmps29
      go_wp2
      go_loop [4, 5] (fun v i => ∃ k m : Nat, k ≤ s.size ∧ i = .int .i64 k ∧ v = .int .i64 m ∧ m ≤ 99999999999999999 ∧ RowKit.Hid (m = vN (s.data.toList.take k))) (fun _ i => s.size - (intOf i).toNat)
      case atStart => exact ⟨0, 0, Nat.zero_le _, rfl, rfl, by omega, Lib.hid rfl⟩
      case round =>
        obtain ⟨k, m, hk, rfl, rfl, hm, hv⟩ := hrel
        by_cases hlt : k < s.size
        · have hb : s[k].toNat < 256 := s[k].toNat_lt
          have hst := vN_step hlt hv.out
          by_cases c1 : 48 ≤ s[k].toNat
          · by_cases c2 : s[k].toNat ≤ 57
            · rw [stp, if_pos ⟨c1, c2⟩] at hst
              have H := Lib.hid hst
              have B := vN_bd s (by omega) hst
              clear hst
              go_wp2
              go_round
              case rel => exact ⟨k + 1, _, by omega, by go_num, by go_num, B, H⟩
              case measure => simp [intOf]; omega
            · rw [stp, if_neg (by omega)] at hst
              have H := Lib.hid hst
              clear hst
              go_wp2
              go_round
              case rel => exact ⟨k + 1, m, by omega, by go_num, rfl, hm, H⟩
              case measure => simp [intOf]; omega
          · rw [stp, if_neg (by omega)] at hst
            have H := Lib.hid hst
            clear hst
            go_wp2
            go_round
            case rel => exact ⟨k + 1, m, by omega, by go_num, rfl, hm, H⟩
            case measure => simp [intOf]; omega
        · have hfin : m = vN s.data.toList := by have := hv.out; rwa [List.take_of_length_le (by simpa using (show s.size ≤ k by omega))] at this
          have h0 : 0 < s.size := by omega
          by_cases c0 : s[0].toNat = 45
          · have hI := Lib.hid (show vI s.data.toList = -(m : Int) by rw [vI, head_get h0, if_pos (UInt8.toNat_inj.1 c0), ← hfin])
            clear hv hfin
            by_cases hr : -1000000000000000 ≤ -(m : Int) ∧ -(m : Int) ≤ 1000000000000000
            · have hB : inB (-(m : Int)) (-1000000000000000) 1000000000000000 = true := by simp [inB]; omega
              by_cases hE : Lib.itoa (-(m : Int)) = s.data.toList
              · have HY := Lib.hid (rd_of hr.1 hr.2 hE)
                have hS := ba_eq hE
                clear hE
                go_wp2_with (first | (go_at_call 43; refine (l00In_any _ _ _ _).mono ?_; rintro e w' ⟨rfl, rfl⟩) | (go_at_call 34; refine (l01Dec_any (-(m : Int)) (by omega) (by omega) _).mono ?_; rintro e w1 ⟨rfl, hb1⟩))
                go_ret2
                exact RD_yes HY.out hb1
              · have HN := Lib.hid (rd_not (l := s.data.toList) (by rw [hI.out]; exact fun h => hE h.2.2))
                have hS := ba_ne hE
                clear hE
                go_wp2_with (first | (go_at_call 43; refine (l00In_any _ _ _ _).mono ?_; rintro e w' ⟨rfl, rfl⟩) | (go_at_call 34; refine (l01Dec_any (-(m : Int)) (by omega) (by omega) _).mono ?_; rintro e w1 ⟨rfl, hb1⟩))
                go_ret2
                exact RD_no HN.out hb1
            · have hB : inB (-(m : Int)) (-1000000000000000) 1000000000000000 = false := by simp [inB]; omega
              have HN := Lib.hid (rd_not (l := s.data.toList) (by rw [hI.out]; exact fun h => hr ⟨h.1, h.2.1⟩))
              clear hr
              go_wp2_with (first | (go_at_call 43; refine (l00In_any _ _ _ _).mono ?_; rintro e w' ⟨rfl, rfl⟩))
              go_ret2
              exact RD_no HN.out (bl_refl _)
          · have hI := Lib.hid (show vI s.data.toList = (m : Int) by rw [vI, head_get h0, if_neg (fun e => c0 (by rw [e]; rfl)), ← hfin])
            clear hv hfin
            by_cases hr : -1000000000000000 ≤ (m : Int) ∧ (m : Int) ≤ 1000000000000000
            · have hB : inB ((m : Int)) (-1000000000000000) 1000000000000000 = true := by simp [inB]; omega
              by_cases hE : Lib.itoa ((m : Int)) = s.data.toList
              · have HY := Lib.hid (rd_of hr.1 hr.2 hE)
                have hS := ba_eq hE
                clear hE
                go_wp2_with (first | (go_at_call 43; refine (l00In_any _ _ _ _).mono ?_; rintro e w' ⟨rfl, rfl⟩) | (go_at_call 34; refine (l01Dec_any ((m : Int)) (by omega) (by omega) _).mono ?_; rintro e w1 ⟨rfl, hb1⟩))
                go_ret2
                exact RD_yes HY.out hb1
              · have HN := Lib.hid (rd_not (l := s.data.toList) (by rw [hI.out]; exact fun h => hE h.2.2))
                have hS := ba_ne hE
                clear hE
                go_wp2_with (first | (go_at_call 43; refine (l00In_any _ _ _ _).mono ?_; rintro e w' ⟨rfl, rfl⟩) | (go_at_call 34; refine (l01Dec_any ((m : Int)) (by omega) (by omega) _).mono ?_; rintro e w1 ⟨rfl, hb1⟩))
                go_ret2
                exact RD_no HN.out hb1
            · have hB : inB ((m : Int)) (-1000000000000000) 1000000000000000 = false := by simp [inB]; omega
              have HN := Lib.hid (rd_not (l := s.data.toList) (by rw [hI.out]; exact fun h => hr ⟨h.1, h.2.1⟩))
              clear hr
              go_wp2_with (first | (go_at_call 43; refine (l00In_any _ _ _ _).mono ?_; rintro e w' ⟨rfl, rfl⟩))
              go_ret2
              exact RD_no HN.out (bl_refl _)
    · go_enter Tryd.func29, Tryd.ntmps29
      go_wp2
      go_ret2
      exact RD_no (rd_len (by simp; omega)) (bl_refl _)
  · go_enter Tryd.func29, Tryd.ntmps29
    go_wp2
    go_ret2
    exact RD_no (rd_len (by simp; omega)) (bl_refl _)
theorem spec_ReadDecimal_any (s : ByteArray) (hs : s.size ≤ 1048576) (w : World) : Calls Tryd.prog 9 #[.string s] w (RD w s.data.toList) := by
  go_enter Tryd.func9, Tryd.ntmps9
  go_wp2_with (go_at_call 29; refine (l01Value_any s hs _).mono ?_; rintro e w1 ⟨rfl, hb⟩)
  go_ret2
  exact ⟨rfl, hb⟩

/-- What the tables and the errors of the library hold. -/
structure Shelf (w : World) : Prop where
  tab : Tab w
  bad : ∃ tp p, w.var? Tryd.prog "strconv.ErrSyntax" = some #[.iface tp p]
  far : ∃ tp p, w.var? Tryd.prog "strconv.ErrRange" = some #[.iface tp p]
theorem gBad : Tryd.prog.globalNamed "strconv.ErrSyntax" = some 0 := by kernel_rfl
theorem gFar : Tryd.prog.globalNamed "strconv.ErrRange" = some 1 := by kernel_rfl
theorem Shelf.below {w w' : World} (h : Shelf w) (hb : Below w.heap.size w w') : Shelf w' := by
  obtain ⟨h1, ⟨tp, p, h2⟩, ⟨tq, q, h3⟩⟩ := h
  exact ⟨h1.below hb, ⟨tp, p, var_stays gBad h2 hb⟩, ⟨tq, q, var_stays gFar h3 hb⟩⟩
theorem Parse_ok (s : ByteArray) (hs : s.size ≤ 1048576) (v : Int) (h : Lib.parseIntB 64 s.data.toList = .ok v) (w : World) :
    Calls Tryd.prog 30 #[.string s, .int .i64 10, .int .i64 64] w fun e w' => e = .returned (.tuple #[.int .i64 v, .nilIface]) ∧ Below w.heap.size w w' := by
  refine (Tryd.strconv_ParseInt_10_at64_ok s (by omega) v h w).mono ?_
  rintro e w' ⟨rfl, rfl | ⟨t, rfl⟩⟩
  · exact ⟨rfl, bl_refl _⟩
  · exact ⟨rfl, Go.Lib.bytesWorld_below _ _ _⟩
theorem Parse_bad (s : ByteArray) (hs : s.size ≤ 1048576) (h : ∀ v, Lib.parseIntB 64 s.data.toList ≠ .ok v) (w : World) (hw : Shelf w) :
    Calls Tryd.prog 30 #[.string s, .int .i64 10, .int .i64 64] w fun e w' => ∃ n N, e = .returned (.tuple #[.int .i64 n, .iface 75 (.pointer (some ⟨N, 0, none⟩))]) ∧ Below w.heap.size w w' := by
  obtain ⟨_, ⟨tp, p, h2⟩, ⟨tq, q, h3⟩⟩ := hw
  cases hp : Lib.parseIntB 64 s.data.toList with
  | ok v => exact absurd hp (h v)
  | range =>
    refine (Tryd.strconv_ParseInt_10_at64_range_var s (by omega) hp tq q w h3).mono ?_
    rintro e w' ⟨N, rfl, _, _, hb⟩
    exact ⟨_, N, rfl, hb⟩
  | _ =>
    refine (Tryd.strconv_ParseInt_10_at64_syntax_var s (by omega) hp tp p w h2).mono ?_
    rintro e w' ⟨N, rfl, _, _, hb⟩
    exact ⟨_, N, rfl, hb⟩
theorem Decimal_raw (n : Int) (h0 : -9223372036854775808 ≤ n) (h1 : n ≤ 9223372036854775807) (w : World) (ht : Tab w) :
    Calls Tryd.prog 17 #[.int .i64 n] w fun e w' => e = .returned (.string ⟨(Lib.itoa n).toArray⟩) ∧ Below w.heap.size w w' := Decimal_any n h0 h1 w ht
set_option maxHeartbeats 1000000 in
theorem ReadDecimal_any (s : ByteArray) (hs : s.size ≤ 1048576) (w : World) (hw : Shelf w) : Calls Tryd.prog 10 #[.string s] w (RD w s.data.toList) := by
  by_cases hok : ∃ v, Lib.parseIntB 64 s.data.toList = .ok v
  · obtain ⟨v, hv⟩ := hok
    have Hv := Lib.hid hv
    by_cases hr : -1000000000000000 ≤ v ∧ v ≤ 1000000000000000
    · have hB : inB v (-1000000000000000) 1000000000000000 = true := by simp [inB]; omega
      by_cases hE : Lib.itoa v = s.data.toList
      · have HY := Lib.hid (rd_of hr.1 hr.2 hE)
        have hS := ba_eq hE
        clear hE hv
        go_enter Tryd.func10, Tryd.ntmps10
        go_wp2_with (first | (go_at_call 30; refine (Parse_ok s hs v Hv.out _).mono ?_; rintro e w1 ⟨rfl, hb1⟩; have hw1 := hw.below hb1) | (go_at_call 31; refine (in_any _ _ _ _).mono ?_; rintro e w' ⟨rfl, rfl⟩) | (go_at_call 17; refine (Decimal_raw v (by omega) (by omega) _ hw1.tab).mono ?_; rintro e w2 ⟨rfl, hb2⟩))
        go_ret2
        exact RD_yes HY.out (bl_call hb1 hb2)
      · have HN := Lib.hid (rd_bad_ok hv (fun h => hE h.2.2))
        have hS := ba_ne hE
        clear hE hv
        go_enter Tryd.func10, Tryd.ntmps10
        go_wp2_with (first | (go_at_call 30; refine (Parse_ok s hs v Hv.out _).mono ?_; rintro e w1 ⟨rfl, hb1⟩; have hw1 := hw.below hb1) | (go_at_call 31; refine (in_any _ _ _ _).mono ?_; rintro e w' ⟨rfl, rfl⟩) | (go_at_call 17; refine (Decimal_raw v (by omega) (by omega) _ hw1.tab).mono ?_; rintro e w2 ⟨rfl, hb2⟩))
        go_ret2
        exact RD_no HN.out (bl_call hb1 hb2)
    · have hB : inB v (-1000000000000000) 1000000000000000 = false := by simp [inB]; omega
      have HN := Lib.hid (rd_bad_ok hv (fun h => hr ⟨h.1, h.2.1⟩))
      clear hr hv
      go_enter Tryd.func10, Tryd.ntmps10
      go_wp2_with (first | (go_at_call 30; refine (Parse_ok s hs v Hv.out _).mono ?_; rintro e w1 ⟨rfl, hb1⟩; have hw1 := hw.below hb1) | (go_at_call 31; refine (in_any _ _ _ _).mono ?_; rintro e w' ⟨rfl, rfl⟩))
      go_ret2
      exact RD_no HN.out hb1
  · have hbad : ∀ v, Lib.parseIntB 64 s.data.toList ≠ .ok v := fun v h => hok ⟨v, h⟩
    have HN := Lib.hid (rd_bad hbad)
    have Hb := Lib.hid hbad
    clear hok hbad
    go_enter Tryd.func10, Tryd.ntmps10
    go_wp2_with (first | (go_at_call 30; refine (Parse_bad s hs Hb.out _ hw).mono ?_; rintro e w1 ⟨n, N, rfl, hb1⟩))
    go_ret2
    exact RD_no HN.out hb1
end Go.Proofs.YtncmpbgekmaoeaaDoor
