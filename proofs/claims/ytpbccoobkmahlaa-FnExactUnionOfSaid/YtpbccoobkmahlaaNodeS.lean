/- A node as the reference judges it. No conditions but bounds. -/
import Derived.Test.YtpbccoobkmahlaaNumsS
import Derived.Test.YtpbccoobkmahlaaKid
namespace Go.Proofs.Ytpbccoobkmahlaa
open Go.Fl Go.RowKit

theorem okNd_bad {i : Nat} {d : Nd} (h : okK d.k = false ∨ numsB d.k d.xs = false) : okNd i d = false := by
  rcases h with h | h <;> simp [okNd, h]
theorem kids0 {k : Int} (h : okK k = true) (hl : leafK k = true) : kidsK k = 0 := by rw [leaf_kids h] at hl; simpa using hl
theorem kids2 {k : Int} (hl : twoK k = true) : kidsK k = 2 := by rw [two_kids] at hl; simpa using hl
theorem kids1 {k : Int} (h : okK k = true) (hl : leafK k = false) (ht : twoK k = false) : kidsK k = 1 := by
  rw [leaf_kids h] at hl
  rw [two_kids] at ht
  simp at hl ht
  have := kids_le k
  omega
theorem ax_leaf {k : Int} (hl : leafK k = true) : axK k = false := by
  simp only [leafK, axK, Bool.and_eq_true, decide_eq_true_eq, Bool.and_eq_false_iff, decide_eq_false_iff_not] at hl ⊢
  omega
theorem okNd_leaf {i : Nat} {d : Nd} (h : okK d.k = true) (hn : numsB d.k d.xs = true) (hl : leafK d.k = true) : okNd i d = ((d.a == 0) && (d.b == 0)) := by
  simp [okNd, h, hn, axB, kidsOf, kids0 h hl, ax_leaf hl]
theorem okNd_two {i : Nat} {d : Nd} (h : okK d.k = true) (hn : numsB d.k d.xs = true) (ht : twoK d.k = true) : okNd i d = (inB d.a 0 ((i : Int) - 1) && inB d.b 0 ((i : Int) - 1)) := by
  simp [okNd, h, hn, axB, kidsOf, kids2 ht]
theorem okNd_ax {i : Nat} {d : Nd} (h : okK d.k = true) (hn : numsB d.k d.xs = true) (hl : leafK d.k = false) (ht : twoK d.k = false) (hx : axK d.k = true) : okNd i d = (inB d.a 0 ((i : Int) - 1) && inB d.b 0 2) := by
  have e : ((d.b == 0) || inB d.b 0 2) = inB d.b 0 2 := by
    cases hb : (d.b == 0)
    · rfl
    · have : d.b = 0 := by simpa using hb
      rw [this]; rfl
  simp [okNd, h, hn, axB, kidsOf, kids1 h hl ht, hx, e, Bool.and_comm]
theorem okNd_one {i : Nat} {d : Nd} (h : okK d.k = true) (hn : numsB d.k d.xs = true) (hl : leafK d.k = false) (ht : twoK d.k = false) (hx : axK d.k = false) : okNd i d = (inB d.a 0 ((i : Int) - 1) && (d.b == 0)) := by
  simp [okNd, h, hn, axB, kidsOf, kids1 h hl ht, hx, Bool.and_comm]
theorem l02Numbers_q (k : Int) (v : Value) (xs : List Nat) (w : World) (h : FIn w v xs) (hn : xs.length ≤ 1048576) : Calls Try.prog 98 #[.int .i64 k, v] w fun e w' => e = .returned (.bool (numsB k xs)) ∧ ∃ m, w' = w.drewN m := l02Numbers_any k v xs w h hn
theorem okK_in (k : Int) : inB k 0 16 = okK k := rfl
theorem in16 (k : Int) (b : Bool) (h : inB k 0 16 = b) (w : World) : Calls Try.prog 71 #[.int .i64 k, .int .i64 0, .int .i64 16] w fun e w' => e = .returned (.bool b) ∧ w' = w := by
  subst h; exact l00In_any k 0 16 w
theorem l00In_at {n lo hi : Int} {b : Bool} (h : inB n lo hi = b) (w : World) : Calls Try.prog 71 #[.int .i64 n, .int .i64 lo, .int .i64 hi] w fun e w' => e = .returned (.bool b) ∧ w' = w := by
  subst h; exact l00In_any n lo hi w
theorem l02Leaf_at {k : Int} {b : Bool} (h : leafK k = b) (w : World) : Calls Try.prog 66 #[.int .i64 k] w fun e w' => e = .returned (.bool b) ∧ w' = w := by
  subst h; exact l02Leaf_any k w
theorem l02Two_at {k : Int} {b : Bool} (h : twoK k = b) (w : World) : Calls Try.prog 67 #[.int .i64 k] w fun e w' => e = .returned (.bool b) ∧ w' = w := by
  subst h; exact l02Two_any k w
theorem l02Axis_at {k : Int} {b : Bool} (h : axK k = b) (w : World) : Calls Try.prog 99 #[.int .i64 k] w fun e w' => e = .returned (.bool b) ∧ w' = w := by
  subst h; exact l02Axis_any k w
set_option maxHeartbeats 4000000 in
theorem l02Node_any (g o i : Nat) (d : Nd) (w : World) (h : NdAt w g o d) (hn : d.xs.length ≤ 1048576) (hi : i ≤ 1048576) : Calls Try.prog 82 #[.pointer (some ⟨g, o, none⟩), .int .i64 (i : Nat)] w (BOut w (okNd i d)) := by
  obtain ⟨c0, c1, c2, nv, c3, hF⟩ := h
  obtain ⟨av, cv, rfl, _⟩ := id hF
  cases ho : okK d.k
  · have HN := Lib.hid (okNd_bad (i := i) (.inl ho))
    have ho' : inB d.k 0 16 = false := ho
    have HI := Lib.hid (fun n => in16 d.k false ho' (w.drewN n))
    clear ho ho' hF
    go_enter Try.func82, Try.ntmps82
    go_wp2_with fail
    go_quiet (first | (go_at_call 71; exact Calls.quiet_of_same (HI.out _)))
    go_wp2_with fail
    go_ret
    exact bout HN.out.symm rfl
  · have ho' : inB d.k 0 16 = true := ho
    have HI := Lib.hid (fun n => in16 d.k true ho' (w.drewN n))
    cases hb : numsB d.k d.xs
    · have HN := Lib.hid (okNd_bad (i := i) (.inr hb))
      have HC := Lib.hid (fun n => l02Numbers_q d.k _ d.xs (w.drewN n) (hF.drewN n) hn)
      rw [hb] at HC
      clear ho ho' hb hF
      go_enter Try.func82, Try.ntmps82
      go_wp2_with fail
      go_quiet (first | (go_at_call 71; exact Calls.quiet_of_same (HI.out _)) | (go_at_call 98; exact Calls.quiet_of (HC.out _)))
      go_wp2_with fail
      go_ret
      exact bout HN.out.symm rfl
    · have HC := Lib.hid (fun n => l02Numbers_q d.k _ d.xs (w.drewN n) (hF.drewN n) hn)
      rw [hb] at HC
      cases hl : leafK d.k
      · cases ht : twoK d.k
        · cases hx : axK d.k
          · have HR := Lib.hid (okNd_one (i := i) ho hb hl ht hx)
            cases ha : inB d.a 0 ((i : Int) - 1)
            all_goals (
              rw [ha] at HR
              have Hl := Lib.hid (fun W => l02Leaf_at hl W)
              have Ht := Lib.hid (fun W => l02Two_at ht W)
              have Hx := Lib.hid (fun W => l02Axis_at hx W)
              have Ha := Lib.hid (fun W => l00In_at ha W)
              clear ho ho' hb hF hl ht hx ha
              go_enter Try.func82, Try.ntmps82
              go_wp2_with fail
              go_quiet (first | (go_at_call 71; exact Calls.quiet_of_same (HI.out _)) | (go_at_call 98; exact Calls.quiet_of (HC.out _)))
              go_wp2_with (first | (go_at_call 66; refine (Calls.mono (by exact Hl.out _) ?_); rintro e w' ⟨rfl, rfl⟩) | (go_at_call 67; refine (Calls.mono (by exact Ht.out _) ?_); rintro e w' ⟨rfl, rfl⟩) | (go_at_call 99; refine (Calls.mono (by exact Hx.out _) ?_); rintro e w' ⟨rfl, rfl⟩) | (go_at_call 71; refine (Calls.mono (by exact Ha.out _) ?_); rintro e w' ⟨rfl, rfl⟩))
              go_ret
              exact bout (HR.out.trans (by simp)).symm rfl)
          · have HR := Lib.hid (okNd_ax (i := i) ho hb hl ht hx)
            cases ha : inB d.a 0 ((i : Int) - 1)
            all_goals (
              rw [ha] at HR
              have Hl := Lib.hid (fun W => l02Leaf_at hl W)
              have Ht := Lib.hid (fun W => l02Two_at ht W)
              have Hx := Lib.hid (fun W => l02Axis_at hx W)
              have Ha := Lib.hid (fun W => l00In_at ha W)
              clear ho ho' hb hF hl ht hx ha
              go_enter Try.func82, Try.ntmps82
              go_wp2_with fail
              go_quiet (first | (go_at_call 71; exact Calls.quiet_of_same (HI.out _)) | (go_at_call 98; exact Calls.quiet_of (HC.out _)))
              go_wp2_with (first | (go_at_call 66; refine (Calls.mono (by exact Hl.out _) ?_); rintro e w' ⟨rfl, rfl⟩) | (go_at_call 67; refine (Calls.mono (by exact Ht.out _) ?_); rintro e w' ⟨rfl, rfl⟩) | (go_at_call 99; refine (Calls.mono (by exact Hx.out _) ?_); rintro e w' ⟨rfl, rfl⟩) | (go_at_call_of 71 d.a; refine (Calls.mono (by exact Ha.out _) ?_); rintro e w' ⟨rfl, rfl⟩) | (go_at_call_of 71 d.b; refine (l00In_any _ _ _ _).mono ?_; rintro e w' ⟨rfl, rfl⟩))
              go_ret
              exact bout (HR.out.trans (by simp)).symm rfl)
        · have HR := Lib.hid (okNd_two (i := i) ho hb ht)
          cases ha : inB d.a 0 ((i : Int) - 1)
          all_goals (
            rw [ha] at HR
            have Hl := Lib.hid (fun W => l02Leaf_at hl W)
            have Ht := Lib.hid (fun W => l02Two_at ht W)
            have Ha := Lib.hid (fun W => l00In_at ha W)
            clear ho ho' hb hF hl ht ha
            go_enter Try.func82, Try.ntmps82
            go_wp2_with fail
            go_quiet (first | (go_at_call 71; exact Calls.quiet_of_same (HI.out _)) | (go_at_call 98; exact Calls.quiet_of (HC.out _)))
            go_wp2_with (first | (go_at_call 66; refine (Calls.mono (by exact Hl.out _) ?_); rintro e w' ⟨rfl, rfl⟩) | (go_at_call 67; refine (Calls.mono (by exact Ht.out _) ?_); rintro e w' ⟨rfl, rfl⟩) | (go_at_call_of 71 d.a; refine (Calls.mono (by exact Ha.out _) ?_); rintro e w' ⟨rfl, rfl⟩) | (go_at_call_of 71 d.b; refine (l00In_any _ _ _ _).mono ?_; rintro e w' ⟨rfl, rfl⟩))
            go_ret
            exact bout (HR.out.trans (by simp)).symm rfl)
      · have HR := Lib.hid (okNd_leaf (i := i) ho hb hl)
        cases ha : (d.a == 0)
        all_goals (
          rw [ha] at HR
          have Hl := Lib.hid (fun W => l02Leaf_at hl W)
          clear ho ho' hb hF hl
          go_enter Try.func82, Try.ntmps82
          go_wp2_with fail
          go_quiet (first | (go_at_call 71; exact Calls.quiet_of_same (HI.out _)) | (go_at_call 98; exact Calls.quiet_of (HC.out _)))
          go_wp2_with (first | (go_at_call 66; refine (Calls.mono (by exact Hl.out _) ?_); rintro e w' ⟨rfl, rfl⟩))
          go_ret
          exact bout (HR.out.trans (by simp)).symm rfl)
end Go.Proofs.Ytpbccoobkmahlaa
