/- The contracts of flushing and of the next number. No conditions but that bits fit their kind. -/
import Derived.Test.YtddfgopgcglldaaNum
namespace Go.Proofs.Ytddfgopgcglldaa
open Go.Fl Go.RowKit

/-- A call's answer that is a float with just these bits. -/
def XOut (w : World) (v : Nat) : Ending → World → Prop := fun e w' => e = .returned (.float .f32 v) ∧ ∃ n, w' = w.drewN n
theorem ret_f {k : FloatKind} {a b : Nat} (h : a = b) : Ending.returned (.float k a) = .returned (.float k b) := by rw [h]

theorem l01From_any (n : Int) (h0 : 0 ≤ n) (h1 : n < 4294967296) (w : World) : Calls Try.prog 80 #[.int .i64 n] w fun e w' => e = .returned (.float .f32 n.toNat) ∧ w' = w := by
  go_enter Try.func80, Try.ntmps80
  go_wp2
  go_ret
  exact ⟨rfl, rfl⟩
theorem FlushNumber_any (x : Nat) (hx : x < 4294967296) (w : World) : Calls Try.prog 19 #[.float .f32 x] w (XOut w (flush x)) := by
  cases h : isSub x
  · have H := Lib.hid (flush_not h)
    go_enter Try.func19, Try.ntmps19
    go_wp2_with (go_at_call 54; refine (IsSubnormal_any _ hx _).mono ?_; rintro e w' ⟨rfl, n, rfl⟩)
    go_ret
    exact ⟨ret_f H.out.symm, _, rfl⟩
  · have H := Lib.hid (flush_of h)
    have H2 := Lib.hid (u32_sign x hx)
    go_enter Try.func19, Try.ntmps19
    go_wp2_with (go_at_call 54; refine (IsSubnormal_any _ hx _).mono ?_; rintro e w' ⟨rfl, n, rfl⟩)
    go_ret
    exact ⟨ret_f (H2.out.trans H.out.symm), _, rfl⟩
theorem l01Flush_any (x : Nat) (hx : x < 4294967296) (w : World) : Calls Try.prog 53 #[.float .f32 x] w (XOut w (flush x)) := by
  by_cases h : x % 2147483648 < 8388608
  · have h1 : (bits BinOp.and IntKind.i64 (bitsI x) 2139095040 == 0) = true := by rw [exp_zero_b hx]; exact decide_eq_true h
    have h2 := flush_spec hx h
    have h3 : (flush x : Int) < 4294967296 := by have := flush_lt hx; omega
    clear h
    go_enter Try.func53, Try.ntmps53
    go_wp2_with (first | (go_at_call 79; refine (l01Bits_any _ hx _).mono ?_; rintro e w' ⟨rfl, n, rfl⟩) | (go_at_call 80; refine (l01From_any _ (by omega) (by omega) _).mono ?_; rintro e w' ⟨rfl, rfl⟩))
    go_ret
    exact ⟨ret_f (by simp), _, rfl⟩
  · have h1 : (bits BinOp.and IntKind.i64 (bitsI x) 2139095040 == 0) = false := by rw [exp_zero_b hx]; exact decide_eq_false h
    have H := Lib.hid (show flush x = x by unfold flush; rw [if_neg h])
    clear h
    go_enter Try.func53, Try.ntmps53
    go_wp2_with (first | (go_at_call 79; refine (l01Bits_any _ hx _).mono ?_; rintro e w' ⟨rfl, n, rfl⟩))
    go_ret
    exact ⟨ret_f H.out.symm, _, rfl⟩
theorem spec_FlushNumber_any (x : Nat) (hx : x < 4294967296) (w : World) : Calls Try.prog 18 #[.float .f32 x] w (XOut w (flush x)) := by
  go_enter Try.func18, Try.ntmps18
  go_wp2_with (go_at_call 53; refine (l01Flush_any _ hx _).mono ?_; rintro e w' ⟨rfl, n, rfl⟩)
  go_ret
  exact ⟨rfl, _, rfl⟩
theorem NextUp_any (x : Nat) (hx : x < 4294967296) (w : World) : Calls Try.prog 22 #[.float .f32 x] w (XOut w (nx x)) := by
  cases hn : isNan .f32 x
  · have hnn := not_nan32 hn
    by_cases hi : x = 2139095040
    · have hg : (FloatKind.f32.format.order x 2139095039 == some .gt) = true := by rw [gt_most hx hn]; exact decide_eq_true hi
      have H := Lib.hid (show nx x = x by unfold nx; rw [if_pos (.inr hi)])
      clear hi hnn
      go_enter Try.func22, Try.ntmps22
      go_wp2_with (go_at_call 58; refine (isNaN_any _ _).mono ?_; rintro e w' ⟨rfl, n, rfl⟩)
      go_ret
      exact ⟨ret_f H.out.symm, _, rfl⟩
    · have hg : (FloatKind.f32.format.order x 2139095039 == some .gt) = false := by rw [gt_most hx hn]; exact decide_eq_false hi
      by_cases hz : x % 2147483648 = 0
      · have he : (FloatKind.f32.format.order x 0 == some .eq) = true := by rw [eq_zero32 hx]; exact decide_eq_true hz
        have H := Lib.hid (show nx x = 1 by unfold nx; rw [if_neg (by omega), if_pos hz])
        clear hi hnn hz
        go_enter Try.func22, Try.ntmps22
        go_wp2_with (go_at_call 58; refine (isNaN_any _ _).mono ?_; rintro e w' ⟨rfl, n, rfl⟩)
        go_ret
        exact ⟨ret_f H.out.symm, _, rfl⟩
      · have he : (FloatKind.f32.format.order x 0 == some .eq) = false := by rw [eq_zero32 hx]; exact decide_eq_false hz
        by_cases hp : x < 2147483648
        · have hl : (FloatKind.f32.format.order x 0 == some .lt) = false := by rw [lt_zero32 hx hn]; exact decide_eq_false (by omega)
          have H := Lib.hid (show nx x = x + 1 by unfold nx; rw [if_neg (by omega), if_neg hz, if_pos hp])
          clear hi hnn hz
          go_enter Try.func22, Try.ntmps22
          go_wp2_with (go_at_call 58; refine (isNaN_any _ _).mono ?_; rintro e w' ⟨rfl, n, rfl⟩)
          go_ret
          exact ⟨ret_f (by rw [H.out]), _, rfl⟩
        · have hl : (FloatKind.f32.format.order x 0 == some .lt) = true := by rw [lt_zero32 hx hn]; exact decide_eq_true (by omega)
          have H := Lib.hid (show nx x = x - 1 by unfold nx; rw [if_neg (by omega), if_neg hz, if_neg hp])
          have h1 : 1 ≤ (x : Int) := by omega
          clear hi hnn hz
          go_enter Try.func22, Try.ntmps22
          go_wp2_with (go_at_call 58; refine (isNaN_any _ _).mono ?_; rintro e w' ⟨rfl, n, rfl⟩)
          go_ret
          exact ⟨ret_f (by rw [H.out]), _, rfl⟩
  · have H := Lib.hid (show nx x = x by unfold nx; rw [if_pos (.inl (nan32 hn))])
    go_enter Try.func22, Try.ntmps22
    go_wp2_with (go_at_call 58; refine (isNaN_any _ _).mono ?_; rintro e w' ⟨rfl, n, rfl⟩)
    go_ret
    exact ⟨ret_f H.out.symm, _, rfl⟩
theorem l01Next_any (x : Nat) (hx : x < 4294967296) (w : World) : Calls Try.prog 57 #[.float .f32 x] w (XOut w (nx x)) := by
  cases hn : isNan .f32 x
  · have hnn := not_nan32 hn
    have hb : bitsI x = x := by rw [bitsI, cn_of_not hn]
    have ho := order_self hn
    by_cases hi : x = 2139095040
    · have H := Lib.hid (show nx x = x by unfold nx; rw [if_pos (.inr hi)])
      have hbb : (bitsI x == 2139095040) = true := by rw [hb, hi]; rfl
      clear hi hnn hb
      go_enter Try.func57, Try.ntmps57
      go_wp2_with (go_at_call 79; refine (l01Bits_any _ hx _).mono ?_; rintro e w' ⟨rfl, n, rfl⟩)
      go_ret
      exact ⟨ret_f H.out.symm, _, rfl⟩
    · have hbb : (bitsI x == 2139095040) = false := by rw [hb]; exact beq_eq_false_iff_ne.2 (by omega)
      by_cases hz : x % 2147483648 = 0
      · have he : (FloatKind.f32.format.order x 0 == some .eq) = true := by rw [eq_zero32 hx]; exact decide_eq_true hz
        have H := Lib.hid (show nx x = 1 by unfold nx; rw [if_neg (by omega), if_pos hz])
        clear hi hnn hz hb
        go_enter Try.func57, Try.ntmps57
        go_wp2_with (first | (go_at_call 79; refine (l01Bits_any _ hx _).mono ?_; rintro e w' ⟨rfl, n, rfl⟩) | (go_at_call 80; refine (l01From_any _ (by omega) (by omega) _).mono ?_; rintro e w' ⟨rfl, rfl⟩))
        go_ret
        exact ⟨ret_f H.out.symm, _, rfl⟩
      · have he : (FloatKind.f32.format.order x 0 == some .eq) = false := by rw [eq_zero32 hx]; exact decide_eq_false hz
        by_cases hp : x < 2147483648
        · have hl : (FloatKind.f32.format.order x 0 == some .gt) = true := by rw [gt_zero32 hx hn]; exact decide_eq_true (by omega)
          have H := Lib.hid (show nx x = x + 1 by unfold nx; rw [if_neg (by omega), if_neg hz, if_pos hp])
          have b0 : 0 ≤ bitsI x := by omega
          have b1 : bitsI x < 2139095040 := by omega
          have Hb := Lib.hid hb
          clear hi hnn hz hb
          go_enter Try.func57, Try.ntmps57
          go_wp2_with (first | (go_at_call 79; refine (l01Bits_any _ hx _).mono ?_; rintro e w' ⟨rfl, n, rfl⟩) | (go_at_call 80; refine (l01From_any _ (by omega) (by omega) _).mono ?_; rintro e w' ⟨rfl, rfl⟩))
          go_ret
          exact ⟨ret_f (by rw [H.out, Hb.out]; omega), _, rfl⟩
        · have hl : (FloatKind.f32.format.order x 0 == some .gt) = false := by rw [gt_zero32 hx hn]; exact decide_eq_false (by omega)
          have H := Lib.hid (show nx x = x - 1 by unfold nx; rw [if_neg (by omega), if_neg hz, if_neg hp])
          have b0 : 1 ≤ bitsI x := by omega
          have b1 : bitsI x < 4294967296 := by omega
          have Hb := Lib.hid hb
          clear hi hnn hz hb
          go_enter Try.func57, Try.ntmps57
          go_wp2_with (first | (go_at_call 79; refine (l01Bits_any _ hx _).mono ?_; rintro e w' ⟨rfl, n, rfl⟩) | (go_at_call 80; refine (l01From_any _ (by omega) (by omega) _).mono ?_; rintro e w' ⟨rfl, rfl⟩))
          go_ret
          exact ⟨ret_f (by rw [H.out, Hb.out]; omega), _, rfl⟩
  · have H := Lib.hid (show nx x = x by unfold nx; rw [if_pos (.inl (nan32 hn))])
    have ho := order_self_nan hn
    go_enter Try.func57, Try.ntmps57
    go_wp2_with (go_at_call 79; refine (l01Bits_any _ hx _).mono ?_; rintro e w' ⟨rfl, n, rfl⟩)
    go_ret
    exact ⟨ret_f H.out.symm, _, rfl⟩
theorem spec_NextUp_any (x : Nat) (hx : x < 4294967296) (w : World) : Calls Try.prog 21 #[.float .f32 x] w (XOut w (nx x)) := by
  go_enter Try.func21, Try.ntmps21
  go_wp2_with (go_at_call 57; refine (l01Next_any _ hx _).mono ?_; rintro e w' ⟨rfl, n, rfl⟩)
  go_ret
  exact ⟨rfl, _, rfl⟩
theorem spec_NextDown_any (x : Nat) (hx : x < 4294967296) (w : World) : Calls Try.prog 23 #[.float .f32 x] w (XOut w (ng (nx (ng x)))) := by
  have hy := ng_lt hx
  go_enter Try.func23, Try.ntmps23
  go_wp2_with (go_at_call 57; refine (l01Next_any _ hy _).mono ?_; rintro e w' ⟨rfl, n, rfl⟩)
  go_ret
  exact ⟨rfl, _, rfl⟩
theorem NextDown_any (x : Nat) (hx : x < 4294967296) (w : World) : Calls Try.prog 24 #[.float .f32 x] w (XOut w (ng (nx (ng x)))) := by
  have hy := ng_lt hx
  go_enter Try.func24, Try.ntmps24
  go_wp2_with (go_at_call 22; refine (NextUp_any _ hy _).mono ?_; rintro e w' ⟨rfl, n, rfl⟩)
  go_ret
  exact ⟨rfl, _, rfl⟩
end Go.Proofs.Ytddfgopgcglldaa
