/- Texts: names and check numbers. No conditions but a bound on the length. -/
import Derived.Test.YtncmpbgekmaoeaaNum
import Derived.LoopTactic
import Derived.ChangeMaps5
namespace Go.Proofs.Ytncmpbgekmaoeaa
open Go.Fl Go.RowKit

def inB (n lo hi : Int) : Bool := decide (lo ≤ n) && decide (n ≤ hi)
theorem l00In_any (n lo hi : Int) (w : World) : Calls Try.prog 14 #[.int .i64 n, .int .i64 lo, .int .i64 hi] w fun e w' => e = .returned (.bool (inB n lo hi)) ∧ w = w' := by
  by_cases h1 : lo ≤ n
  · by_cases h2 : n ≤ hi
    · have H := Lib.hid (show inB n lo hi = true by simp [inB, h1, h2])
      go_enter Try.func14, Try.ntmps14
      go_wp2
      go_ret
      exact ⟨ret_bool H.out.symm, rfl⟩
    · have H := Lib.hid (show inB n lo hi = false by simp [inB, h2])
      go_enter Try.func14, Try.ntmps14
      go_wp2
      go_ret
      exact ⟨ret_bool H.out.symm, rfl⟩
  · have H := Lib.hid (show inB n lo hi = false by simp [inB, h1])
    go_enter Try.func14, Try.ntmps14
    go_wp2
    go_ret
    exact ⟨ret_bool H.out.symm, rfl⟩
theorem in_any (n lo hi : Int) (w : World) : Calls Try.prog 16 #[.int .i64 n, .int .i64 lo, .int .i64 hi] w fun e w' => e = .returned (.bool (inB n lo hi)) ∧ w = w' := by
  by_cases h1 : lo ≤ n
  · by_cases h2 : n ≤ hi
    · have H := Lib.hid (show inB n lo hi = true by simp [inB, h1, h2])
      go_enter Try.func16, Try.ntmps16
      go_wp2
      go_ret
      exact ⟨ret_bool H.out.symm, rfl⟩
    · have H := Lib.hid (show inB n lo hi = false by simp [inB, h2])
      go_enter Try.func16, Try.ntmps16
      go_wp2
      go_ret
      exact ⟨ret_bool H.out.symm, rfl⟩
  · have H := Lib.hid (show inB n lo hi = false by simp [inB, h1])
    go_enter Try.func16, Try.ntmps16
    go_wp2
    go_ret
    exact ⟨ret_bool H.out.symm, rfl⟩
theorem byte_snoc (s : ByteArray) (k : Nat) (h : k < s.size) : s.data.toList.take (k + 1) = s.data.toList.take k ++ [s[k]] := by
  rw [List.take_succ_eq_append_getElem (by simpa using h)]; rfl
def okC (c : UInt8) : Bool := decide (97 ≤ c.toNat) && decide (c.toNat ≤ 122)
def nameB (s : ByteArray) : Bool := s.data.toList.all okC && (decide (1 ≤ s.size) && decide (s.size ≤ 8))
theorem name_no {s : ByteArray} {k : Nat} (h : k < s.size) (hc : okC s[k] = false) : nameB s = false := by
  unfold nameB
  have : s.data.toList.all okC = false := List.all_eq_false.2 ⟨s.data.toList[k]'(by simpa using h), List.getElem_mem _, by show ¬ okC s[k] = true; simp [hc]⟩
  rw [this]; rfl
theorem name_yes {s : ByteArray} {k : Nat} (hk : ¬ k < s.size) (h : (s.data.toList.take k).all okC = true) : nameB s = (decide (1 ≤ s.size) && decide (s.size ≤ 8)) := by
  unfold nameB
  rw [List.take_of_length_le (by simpa using hk)] at h
  rw [h]; rfl
theorem name_step {s : ByteArray} {k : Nat} (hk : k < s.size) (h : (s.data.toList.take k).all okC = true) (hc : okC s[k] = true) : (s.data.toList.take (k + 1)).all okC = true := by
  rw [byte_snoc s k hk, List.all_append, h]; simp [hc]
theorem spec_IsName_any (s : ByteArray) (hs : s.size ≤ 1048576) (w : World) : Calls Try.prog 6 #[.string s] w fun e w' => e = .returned (.bool (nameB s)) ∧ w = w' := by
  go_enter Try.func6, Try.ntmps6
  go_wp2
  go_loop [3] (fun i => ∃ k : Nat, k ≤ s.size ∧ i = .int .i64 k ∧ RowKit.Hid ((s.data.toList.take k).all okC = true)) (fun i => s.size - (intOf i).toNat)
  case atStart => exact ⟨0, Nat.zero_le _, rfl, Lib.hid rfl⟩
  case round =>
    obtain ⟨k, hk, rfl, ha⟩ := hrel
    by_cases hlt : k < s.size
    · by_cases h1 : s[k].toNat < 97
      · have H := Lib.hid (name_no hlt (show okC s[k] = false by simp [okC]; omega))
        go_wp2
        go_ret
        exact ⟨ret_bool H.out.symm, rfl⟩
      · by_cases h2 : 122 < s[k].toNat
        · have H := Lib.hid (name_no hlt (show okC s[k] = false by simp [okC]; omega))
          go_wp2
          go_ret
          exact ⟨ret_bool H.out.symm, rfl⟩
        · have H := Lib.hid (name_step hlt ha.out (show okC s[k] = true by simp [okC]; omega))
          go_wp2
          go_round
          case rel => exact ⟨k + 1, by omega, by go_num, H⟩
          case measure => simp [intOf]; omega
    · have H := Lib.hid (name_yes hlt ha.out)
      by_cases h1 : 1 ≤ s.size
      · by_cases h2 : s.size ≤ 8
        · go_wp2
          go_ret
          exact ⟨ret_bool (by rw [H.out]; simp [h1, h2]; omega), rfl⟩
        · go_wp2
          go_ret
          exact ⟨ret_bool (by rw [H.out]; simp [h2]; omega), rfl⟩
      · go_wp2
        go_ret
        exact ⟨ret_bool (by rw [H.out]; simp [h1]), rfl⟩
theorem IsName_any (s : ByteArray) (hs : s.size ≤ 1048576) (w : World) : Calls Try.prog 7 #[.string s] w fun e w' => e = .returned (.bool (nameB s)) ∧ w = w' := by
  go_enter Try.func7, Try.ntmps7
  go_wp2
  go_loop [3, 6] (fun _ i => ∃ k : Nat, k ≤ s.size ∧ i = .int .i64 k ∧ RowKit.Hid ((s.data.toList.take k).all okC = true)) (fun _ i => s.size - (intOf i).toNat)
  case atStart => exact ⟨0, Nat.zero_le _, rfl, Lib.hid rfl⟩
  case round =>
    obtain ⟨k, hk, rfl, ha⟩ := hrel
    by_cases hlt : k < s.size
    · by_cases h1 : s[k].toNat < 97
      · have H := Lib.hid (name_no hlt (show okC s[k] = false by simp [okC]; omega))
        go_wp2
        go_ret
        exact ⟨ret_bool H.out.symm, rfl⟩
      · by_cases h2 : 122 < s[k].toNat
        · have H := Lib.hid (name_no hlt (show okC s[k] = false by simp [okC]; omega))
          go_wp2
          go_ret
          exact ⟨ret_bool H.out.symm, rfl⟩
        · have H := Lib.hid (name_step hlt ha.out (show okC s[k] = true by simp [okC]; omega))
          go_wp2
          go_round
          case rel => exact ⟨k + 1, by omega, by go_num, H⟩
          case measure => simp [intOf]; omega
    · have H := Lib.hid (name_yes hlt ha.out)
      by_cases h1 : 1 ≤ s.size
      · by_cases h2 : s.size ≤ 8
        · go_wp2
          go_ret
          exact ⟨ret_bool (by rw [H.out]; simp [h1, h2]; omega), rfl⟩
        · go_wp2
          go_ret
          exact ⟨ret_bool (by rw [H.out]; simp [h2]; omega), rfl⟩
      · go_wp2
        go_ret
        exact ⟨ret_bool (by rw [H.out]; simp [h1]), rfl⟩
def stepC (n : Int) (c : UInt8) : Int := (659 * n + c.toNat + 29) % 65003
def chk (n : Int) (l : List UInt8) : Int := l.foldl stepC n
theorem chk_snoc (n : Int) (l : List UInt8) (c : UInt8) : chk n (l ++ [c]) = stepC (chk n l) c := by simp [chk]
theorem chk_step {s : ByteArray} {k : Nat} {n m : Int} (hk : k < s.size) (h : m = chk n (s.data.toList.take k)) : (659 * m + s[k].toNat + 29) % 65003 = chk n (s.data.toList.take (k + 1)) := by
  rw [byte_snoc s k hk, chk_snoc, ← h]; rfl
theorem chk_all {s : ByteArray} {k : Nat} {n m : Int} (hk : ¬ k < s.size) (h : m = chk n (s.data.toList.take k)) : m = chk n s.data.toList := by
  rw [List.take_of_length_le (by simpa using hk)] at h; exact h
theorem l01Check_any (n : Int) (h0 : 0 ≤ n) (h1 : n ≤ 65002) (s : ByteArray) (hs : s.size ≤ 1048576) (w : World) : Calls Try.prog 15 #[.int .i64 n, .string s] w fun e w' => e = .returned (.int .i64 (chk n s.data.toList)) ∧ w = w' := by
  go_enter Try.func15, Try.ntmps15
  go_wp2
  go_loop [0, 5] (fun v i => ∃ (k : Nat) (m : Int), k ≤ s.size ∧ i = .int .i64 k ∧ v = .int .i64 m ∧ 0 ≤ m ∧ m ≤ 65002 ∧ RowKit.Hid (m = chk n (s.data.toList.take k))) (fun _ i => s.size - (intOf i).toNat)
  case atStart => exact ⟨0, n, Nat.zero_le _, rfl, rfl, h0, h1, Lib.hid rfl⟩
  case round =>
    obtain ⟨k, m, hk, rfl, rfl, hm0, hm1, hm⟩ := hrel
    by_cases hlt : k < s.size
    · have hb : s[k].toNat < 256 := s[k].toNat_lt
      have H := Lib.hid (chk_step hlt hm.out)
      go_wp2
      go_round
      case rel => exact ⟨k + 1, _, by omega, by go_num, rfl, by omega, by omega, H⟩
      case measure => simp [intOf]; omega
    · have H := Lib.hid (chk_all hlt hm.out)
      go_wp2
      go_ret
      exact ⟨ret_int H.out, rfl⟩
def COut (w : World) (n : Int) (s : ByteArray) : Ending → World → Prop := fun e w' => e = .returned (.tuple #[.int .i64 (if inB n 0 65002 then chk n s.data.toList else 0), .bool (inB n 0 65002)]) ∧ w = w'
theorem COut_yes {w : World} {n m : Int} {s : ByteArray} (h : inB n 0 65002 = true) (hm : m = chk n s.data.toList) : COut w n s (.returned (.tuple #[.int .i64 m, .bool true])) w := ⟨by rw [h, hm]; rfl, rfl⟩
theorem COut_no {w : World} {n : Int} {s : ByteArray} (h : inB n 0 65002 = false) : COut w n s (.returned (.tuple #[.int .i64 0, .bool false])) w := ⟨by rw [h]; rfl, rfl⟩
theorem inB_bd {n lo hi : Int} (h : inB n lo hi = true) : lo ≤ n ∧ n ≤ hi := by simpa [inB] using h
theorem spec_CheckOf_any (n : Int) (s : ByteArray) (hs : s.size ≤ 1048576) (w : World) : Calls Try.prog 8 #[.int .i64 n, .string s] w (COut w n s) := by
  cases h : inB n 0 65002
  · have H := Lib.hid h
    go_enter Try.func8, Try.ntmps8
    go_wp2_with (go_at_call 14; refine (l00In_any _ _ _ _).mono ?_; rintro e w' ⟨rfl, rfl⟩)
    go_ret2
    exact COut_no H.out
  · have H := Lib.hid h
    obtain ⟨h0, h1⟩ := inB_bd h
    go_enter Try.func8, Try.ntmps8
    go_wp2_with (first | (go_at_call 14; refine (l00In_any _ _ _ _).mono ?_; rintro e w' ⟨rfl, rfl⟩) | (go_at_call 15; refine (l01Check_any _ h0 h1 _ hs _).mono ?_; rintro e w' ⟨rfl, rfl⟩))
    go_ret2
    exact COut_yes H.out rfl
theorem CheckOf_any (n : Int) (s : ByteArray) (hs : s.size ≤ 1048576) (w : World) : Calls Try.prog 9 #[.int .i64 n, .string s] w (COut w n s) := by
  cases h : inB n 0 65002
  · have H := Lib.hid h
    go_enter Try.func9, Try.ntmps9
    go_wp2_with (go_at_call 16; refine (in_any _ _ _ _).mono ?_; rintro e w' ⟨rfl, rfl⟩)
    go_ret2
    exact COut_no H.out
  · have H := Lib.hid h
    obtain ⟨h0, h1⟩ := inB_bd h
    go_enter Try.func9, Try.ntmps9
    go_wp2_with (go_at_call 16; refine (in_any _ _ _ _).mono ?_; rintro e w' ⟨rfl, rfl⟩)
    clear h
    go_loop [0, 6, 12] (fun v _ i => ∃ (k : Nat) (m : Int), k ≤ s.size ∧ i = .int .i64 k ∧ v = .int .i64 m ∧ 0 ≤ m ∧ m ≤ 65002 ∧ RowKit.Hid (m = chk n (s.data.toList.take k))) (fun _ _ i => s.size - (intOf i).toNat)
    case atStart => exact ⟨0, n, Nat.zero_le _, rfl, rfl, h0, h1, Lib.hid rfl⟩
    case round =>
      obtain ⟨k, m, hk, rfl, rfl, hm0, hm1, hm⟩ := hrel
      by_cases hlt : k < s.size
      · have hb : s[k].toNat < 256 := s[k].toNat_lt
        have H := Lib.hid (chk_step hlt hm.out)
        go_wp2
        go_round
        case rel => exact ⟨k + 1, _, by omega, by go_num, rfl, by omega, by omega, H⟩
        case measure => simp [intOf]; omega
      · have H2 := Lib.hid (chk_all hlt hm.out)
        go_wp2
        go_ret2
        exact COut_yes H.out H2.out
end Go.Proofs.Ytncmpbgekmaoeaa
