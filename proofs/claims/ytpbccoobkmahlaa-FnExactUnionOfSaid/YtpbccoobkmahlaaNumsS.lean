/- The numbers of a node, as the reference looks at them. No conditions but a bound on their length. -/
import Derived.Test.YtpbccoobkmahlaaNums
import Derived.Test.YtpbccoobkmahlaaSame
namespace Go.Proofs.Ytpbccoobkmahlaa
open Go.Fl Go.RowKit

def numTo (s : Nat) (xs : List Nat) (k : Nat) : Bool := (xs.take k).all (numB s)
theorem numTo_yes {s : Nat} {xs : List Nat} {k x : Nat} (hk : k < xs.length) (h : numTo s xs k = true) (e : xs.getD k 0 = x) (h1 : isFin x = true) (h2 : sgBad s x = false) : numTo s xs (k + 1) = true := by
  unfold numTo at *; rw [take_snoc xs k hk, List.all_append, h]
  have : xs[k] = x := by rw [← e]; simp [hk]
  simp [this, numB, h1, h2]
theorem nums_no {c : Int} {s : Nat} {xs : List Nat} {k x : Nat} (hs : sgK c = s) (hk : k < xs.length) (e : xs.getD k 0 = x) (h : isFin x = false ∨ sgBad s x = true) : numsB c xs = false := by
  have : xs.all (numB (sgK c)) = false := by
    rw [List.all_eq_false]
    refine ⟨x, ?_, ?_⟩
    · rw [← e]; simp [hk]
    · rw [hs]; rcases h with h | h <;> simp [numB, h]
  simp [numsB, this]
theorem nums_yes {c : Int} {s : Nat} {xs : List Nat} (hs : sgK c = s) (hl : xs.length = cntK c) (h : numTo s xs xs.length = true) : numsB c xs = true := by
  unfold numTo at h; rw [List.take_length] at h
  simp [numsB, hl, hs, h]
theorem bad1 {x : Nat} {b : Bool} (h : (FloatKind.f32.format.order x 0 == some .lt) = b) : sgBad 1 x = b := by unfold sgBad ltB; rw [h]; simp
theorem bad2 {x : Nat} {b : Bool} (h : (FloatKind.f32.format.order x 0 == some .lt || FloatKind.f32.format.order x 0 == some .eq) = b) : sgBad 2 x = b := by unfold sgBad leB; rw [h]; simp
theorem bad0 (x : Nat) : sgBad 0 x = false := by unfold sgBad; simp
theorem nums_len' {k : Int} {xs : List Nat} (h : ((xs.length : Int) != (cntK k : Nat)) = true) : numsB k xs = false := nums_len (by simp at h; omega)
set_option maxHeartbeats 8000000 in
theorem l02Nums_1 (k : Int) (v : Value) (xs : List Nat) (w : World) (h : FIn w v xs) (hn : xs.length ≤ 1048576) (hk : k = 0 ∨ k = 1 ∨ k = 2 ∨ k = 3 ∨ k = 16) :
    Calls Try.prog 98 #[.int .i64 k, v] w (BOut w (numsB k xs)) := by
  obtain ⟨av, cv, rfl, _⟩ := id h
  have HS := Lib.hid (fsrc h)
  clear h
  have hs : sgK k = 1 := by unfold sgK; rw [if_pos (by omega)]
  have Hs := Lib.hid hs
  clear hs
  cases hl : ((xs.length : Int) != (cntK k : Nat))
  · have HL := Lib.hid (show xs.length = cntK k by simp at hl; omega)
    rcases hk with rfl | rfl | rfl | rfl | rfl
    all_goals (
      go_enter Try.func98, Try.ntmps98
      go_wp2_with (go_at_call 112; refine (l02Count_any _ _).mono ?_; rintro e w' ⟨rfl, rfl⟩)
      go_loopw [5] (fun i wr => ∃ m n : Nat, m ≤ xs.length ∧ i = .int .i64 m ∧ wr = w.drewN n ∧ RowKit.Hid (numTo 1 xs m = true)) (fun i _ => xs.length - (intOf i).toNat)
      case atStart => exact ⟨0, 0, Nat.zero_le _, rfl, rfl, Lib.hid rfl⟩
      case round =>
        obtain ⟨m, n, hm, rfl, rfl, ha⟩ := hrel
        by_cases hlt : m < xs.length
        · obtain ⟨b, o, rfl, _, hc⟩ := HS.out m hlt
          obtain ⟨x, hx⟩ : ∃ x, xs.getD m 0 = x := ⟨_, rfl⟩
          rw [hx] at hc
          have Hx := Lib.hid hx
          clear hx
          cases hf : isFin x
          · have HN := Lib.hid (nums_no Hs.out hlt Hx.out (.inl hf))
            go_wp2_with (go_at_call 113; refine (l01Finite_any _ _).mono ?_; rintro e w' ⟨rfl, n1, rfl⟩)
            go_ret
            exact bout HN.out.symm rfl
          · cases hb : (FloatKind.f32.format.order x 0 == some .lt)
            · have HU := Lib.hid (numTo_yes hlt ha.out Hx.out hf (bad1 hb))
              go_wp2_with (go_at_call 113; refine (l01Finite_any _ _).mono ?_; rintro e w' ⟨rfl, n1, rfl⟩)
              go_roundw
              case rel => exact ⟨m + 1, _, by omega, by go_num, rfl, HU⟩
              case measure => simp [intOf]; omega
            · have HN := Lib.hid (nums_no Hs.out hlt Hx.out (.inr (bad1 hb)))
              go_wp2_with (go_at_call 113; refine (l01Finite_any _ _).mono ?_; rintro e w' ⟨rfl, n1, rfl⟩)
              go_ret
              exact bout HN.out.symm rfl
        · have e : m = xs.length := by omega
          rw [e] at ha
          have HY := Lib.hid (nums_yes Hs.out HL.out ha.out)
          go_wp2_with fail
          go_ret
          exact bout HY.out.symm rfl)
  · have HN := Lib.hid (nums_len' hl)
    go_enter Try.func98, Try.ntmps98
    go_wp2_with (go_at_call 112; refine (l02Count_any _ _).mono ?_; rintro e w' ⟨rfl, rfl⟩)
    go_ret
    exact bout (n := 0) HN.out.symm rfl
set_option maxHeartbeats 8000000 in
theorem l02Nums_2 (k : Int) (v : Value) (xs : List Nat) (w : World) (h : FIn w v xs) (hn : xs.length ≤ 1048576) (hk : k = 8 ∨ k = 10 ∨ k = 11 ∨ k = 14) :
    Calls Try.prog 98 #[.int .i64 k, v] w (BOut w (numsB k xs)) := by
  obtain ⟨av, cv, rfl, _⟩ := id h
  have HS := Lib.hid (fsrc h)
  clear h
  have hs : sgK k = 2 := by unfold sgK; rw [if_neg (by omega), if_pos (by omega)]
  have Hs := Lib.hid hs
  clear hs
  cases hl : ((xs.length : Int) != (cntK k : Nat))
  · have HL := Lib.hid (show xs.length = cntK k by simp at hl; omega)
    rcases hk with rfl | rfl | rfl | rfl
    all_goals (
      go_enter Try.func98, Try.ntmps98
      go_wp2_with (go_at_call 112; refine (l02Count_any _ _).mono ?_; rintro e w' ⟨rfl, rfl⟩)
      go_loopw [5] (fun i wr => ∃ m n : Nat, m ≤ xs.length ∧ i = .int .i64 m ∧ wr = w.drewN n ∧ RowKit.Hid (numTo 2 xs m = true)) (fun i _ => xs.length - (intOf i).toNat)
      case atStart => exact ⟨0, 0, Nat.zero_le _, rfl, rfl, Lib.hid rfl⟩
      case round =>
        obtain ⟨m, n, hm, rfl, rfl, ha⟩ := hrel
        by_cases hlt : m < xs.length
        · obtain ⟨b, o, rfl, _, hc⟩ := HS.out m hlt
          obtain ⟨x, hx⟩ : ∃ x, xs.getD m 0 = x := ⟨_, rfl⟩
          rw [hx] at hc
          have Hx := Lib.hid hx
          clear hx
          cases hf : isFin x
          · have HN := Lib.hid (nums_no Hs.out hlt Hx.out (.inl hf))
            go_wp2_with (go_at_call 113; refine (l01Finite_any _ _).mono ?_; rintro e w' ⟨rfl, n1, rfl⟩)
            go_ret
            exact bout HN.out.symm rfl
          · cases hb : (FloatKind.f32.format.order x 0 == some .lt || FloatKind.f32.format.order x 0 == some .eq)
            · have HU := Lib.hid (numTo_yes hlt ha.out Hx.out hf (bad2 hb))
              go_wp2_with (go_at_call 113; refine (l01Finite_any _ _).mono ?_; rintro e w' ⟨rfl, n1, rfl⟩)
              go_roundw
              case rel => exact ⟨m + 1, _, by omega, by go_num, rfl, HU⟩
              case measure => simp [intOf]; omega
            · have HN := Lib.hid (nums_no Hs.out hlt Hx.out (.inr (bad2 hb)))
              go_wp2_with (go_at_call 113; refine (l01Finite_any _ _).mono ?_; rintro e w' ⟨rfl, n1, rfl⟩)
              go_ret
              exact bout HN.out.symm rfl
        · have e : m = xs.length := by omega
          rw [e] at ha
          have HY := Lib.hid (nums_yes Hs.out HL.out ha.out)
          go_wp2_with fail
          go_ret
          exact bout HY.out.symm rfl)
  · have HN := Lib.hid (nums_len' hl)
    go_enter Try.func98, Try.ntmps98
    go_wp2_with (go_at_call 112; refine (l02Count_any _ _).mono ?_; rintro e w' ⟨rfl, rfl⟩)
    go_ret
    exact bout (n := 0) HN.out.symm rfl
set_option maxHeartbeats 8000000 in
theorem l02Nums_0 (k : Int) (v : Value) (xs : List Nat) (w : World) (h : FIn w v xs) (hn : xs.length ≤ 1048576) (hk : ¬ (0 ≤ k ∧ k ≤ 3 ∨ k = 16) ∧ ¬ (k = 8 ∨ k = 10 ∨ k = 11 ∨ k = 14)) :
    Calls Try.prog 98 #[.int .i64 k, v] w (BOut w (numsB k xs)) := by
  obtain ⟨av, cv, rfl, _⟩ := id h
  have HS := Lib.hid (fsrc h)
  clear h
  have hs : sgK k = 0 := by unfold sgK; rw [if_neg (by omega), if_neg (by omega)]
  have Hs := Lib.hid hs
  clear hs
  cases hl : ((xs.length : Int) != (cntK k : Nat))
  · have HL := Lib.hid (show xs.length = cntK k by simp at hl; omega)
    have q0 : (k == 0) = false := by simp; omega
    have q1 : (k == 1) = false := by simp; omega
    have q2 : (k == 2) = false := by simp; omega
    have q3 : (k == 3) = false := by simp; omega
    have q4 : (k == 16) = false := by simp; omega
    have q5 : (k == 8) = false := by simp; omega
    have q6 : (k == 10) = false := by simp; omega
    have q7 : (k == 11) = false := by simp; omega
    have q8 : (k == 14) = false := by simp; omega
    clear hk
    go_enter Try.func98, Try.ntmps98
    go_wp2_with (go_at_call 112; refine (l02Count_any _ _).mono ?_; rintro e w' ⟨rfl, rfl⟩)
    go_loopw [5] (fun i wr => ∃ m n : Nat, m ≤ xs.length ∧ i = .int .i64 m ∧ wr = w.drewN n ∧ RowKit.Hid (numTo 0 xs m = true)) (fun i _ => xs.length - (intOf i).toNat)
    case atStart => exact ⟨0, 0, Nat.zero_le _, rfl, rfl, Lib.hid rfl⟩
    case round =>
      obtain ⟨m, n, hm, rfl, rfl, ha⟩ := hrel
      by_cases hlt : m < xs.length
      · obtain ⟨b, o, rfl, _, hc⟩ := HS.out m hlt
        obtain ⟨x, hx⟩ : ∃ x, xs.getD m 0 = x := ⟨_, rfl⟩
        rw [hx] at hc
        have Hx := Lib.hid hx
        clear hx
        cases hf : isFin x
        · have HN := Lib.hid (nums_no Hs.out hlt Hx.out (.inl hf))
          go_wp2_with (go_at_call 113; refine (l01Finite_any _ _).mono ?_; rintro e w' ⟨rfl, n1, rfl⟩)
          go_ret
          exact bout HN.out.symm rfl
        · have HU := Lib.hid (numTo_yes hlt ha.out Hx.out hf (bad0 x))
          go_wp2_with (go_at_call 113; refine (l01Finite_any _ _).mono ?_; rintro e w' ⟨rfl, n1, rfl⟩)
          go_roundw
          case rel => exact ⟨m + 1, _, by omega, by go_num, rfl, HU⟩
          case measure => simp [intOf]; omega
      · have e : m = xs.length := by omega
        rw [e] at ha
        have HY := Lib.hid (nums_yes Hs.out HL.out ha.out)
        go_wp2_with fail
        go_ret
        exact bout HY.out.symm rfl
  · have HN := Lib.hid (nums_len' hl)
    go_enter Try.func98, Try.ntmps98
    go_wp2_with (go_at_call 112; refine (l02Count_any _ _).mono ?_; rintro e w' ⟨rfl, rfl⟩)
    go_ret
    exact bout (n := 0) HN.out.symm rfl
theorem l02Numbers_any (k : Int) (v : Value) (xs : List Nat) (w : World) (h : FIn w v xs) (hn : xs.length ≤ 1048576) : Calls Try.prog 98 #[.int .i64 k, v] w (BOut w (numsB k xs)) := by
  by_cases h1 : 0 ≤ k ∧ k ≤ 3 ∨ k = 16
  · exact l02Nums_1 k v xs w h hn (by omega)
  · by_cases h2 : k = 8 ∨ k = 10 ∨ k = 11 ∨ k = 14
    · exact l02Nums_2 k v xs w h hn h2
    · exact l02Nums_0 k v xs w h hn ⟨h1, h2⟩
end Go.Proofs.Ytpbccoobkmahlaa
