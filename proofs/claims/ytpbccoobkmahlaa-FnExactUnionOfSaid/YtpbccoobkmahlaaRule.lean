/- The rules of the kinds, as the program and the reference look them up. No conditions. -/
import Derived.Test.YtpbccoobkmahlaaVal
import Derived.BigQuiet
namespace Go.Proofs.Ytpbccoobkmahlaa
open Go.Fl Go.RowKit

theorem in_any (n lo hi : Int) (w : World) : Calls Try.prog 51 #[.int .i64 n, .int .i64 lo, .int .i64 hi] w fun e w' => e = .returned (.bool (inB n lo hi)) ∧ w' = w := by
  unfold inB
  cases h : decide (lo ≤ n)
  · go_enter Try.func51, Try.ntmps51
    go_wp2
    go_ret
    exact ⟨rfl, rfl⟩
  · go_enter Try.func51, Try.ntmps51
    go_wp2
    go_ret
    exact ⟨rfl, rfl⟩
theorem l00In_any (n lo hi : Int) (w : World) : Calls Try.prog 71 #[.int .i64 n, .int .i64 lo, .int .i64 hi] w fun e w' => e = .returned (.bool (inB n lo hi)) ∧ w' = w := by
  unfold inB
  cases h : decide (lo ≤ n)
  · go_enter Try.func71, Try.ntmps71
    go_wp2
    go_ret
    exact ⟨rfl, rfl⟩
  · go_enter Try.func71, Try.ntmps71
    go_wp2
    go_ret
    exact ⟨rfl, rfl⟩
theorem l02Leaf_any (k : Int) (w : World) : Calls Try.prog 66 #[.int .i64 k] w fun e w' => e = .returned (.bool (leafK k)) ∧ w' = w := by
  go_enter Try.func66, Try.ntmps66
  go_wp2_with (go_at_call 71; refine (l00In_any _ _ _ _).mono ?_; rintro e w' ⟨rfl, rfl⟩)
  go_ret
  exact ⟨rfl, rfl⟩
theorem l02Two_any (k : Int) (w : World) : Calls Try.prog 67 #[.int .i64 k] w fun e w' => e = .returned (.bool (twoK k)) ∧ w' = w := by
  go_enter Try.func67, Try.ntmps67
  go_wp2_with (go_at_call 71; refine (l00In_any _ _ _ _).mono ?_; rintro e w' ⟨rfl, rfl⟩)
  go_ret
  exact ⟨rfl, rfl⟩
theorem l02Axis_any (k : Int) (w : World) : Calls Try.prog 99 #[.int .i64 k] w fun e w' => e = .returned (.bool (axK k)) ∧ w' = w := by
  go_enter Try.func99, Try.ntmps99
  go_wp2_with (go_at_call 71; refine (l00In_any _ _ _ _).mono ?_; rintro e w' ⟨rfl, rfl⟩)
  go_ret
  exact ⟨rfl, rfl⟩
theorem kinds {k : Int} (h : 0 ≤ k ∧ k ≤ 16) : k = 0 ∨ k = 1 ∨ k = 2 ∨ k = 3 ∨ k = 4 ∨ k = 5 ∨ k = 6 ∨ k = 7 ∨ k = 8 ∨ k = 9 ∨ k = 10 ∨ k = 11 ∨ k = 12 ∨ k = 13 ∨ k = 14 ∨ k = 15 ∨ k = 16 := by omega
theorem kne {k n : Int} (h : ¬ (0 ≤ k ∧ k ≤ 16)) (hn : 0 ≤ n ∧ n ≤ 16) : (k == n) = false := by simp; omega
def ruleV (k : Int) : Value := .agg #[.int .i64 (cntK k : Nat), .int .i64 (kidsK k : Nat), .bool (axK k), .int .i64 (sgK k : Nat)]
set_option maxHeartbeats 4000000 in
theorem l02Count_any (k : Int) (w : World) : Calls Try.prog 112 #[.int .i64 k] w fun e w' => e = .returned (.int .i64 (cntK k : Nat)) ∧ w = w' := by
  by_cases h : 0 ≤ k ∧ k ≤ 16
  · rcases kinds h with rfl | rfl | rfl | rfl | rfl | rfl | rfl | rfl | rfl | rfl | rfl | rfl | rfl | rfl | rfl | rfl | rfl
    all_goals clear h
    all_goals (go_enter Try.func112, Try.ntmps112; go_wp2; go_ret; exact ⟨rfl, rfl⟩)
  · have hc : cntK k = 0 := by unfold cntK; repeat' rw [if_neg (by omega)]
    have q0 := kne (n := 0) h (by omega)
    have q1 := kne (n := 1) h (by omega)
    have q2 := kne (n := 2) h (by omega)
    have q3 := kne (n := 3) h (by omega)
    have q4 := kne (n := 4) h (by omega)
    have q5 := kne (n := 5) h (by omega)
    have q6 := kne (n := 6) h (by omega)
    have q7 := kne (n := 7) h (by omega)
    have q8 := kne (n := 8) h (by omega)
    have q9 := kne (n := 9) h (by omega)
    have q10 := kne (n := 10) h (by omega)
    have q11 := kne (n := 11) h (by omega)
    have q12 := kne (n := 12) h (by omega)
    have q13 := kne (n := 13) h (by omega)
    have q14 := kne (n := 14) h (by omega)
    have q15 := kne (n := 15) h (by omega)
    have q16 := kne (n := 16) h (by omega)
    clear h
    rw [hc]
    clear hc
    go_enter Try.func112, Try.ntmps112
    go_wp2
    go_ret
    exact ⟨rfl, rfl⟩
set_option maxHeartbeats 8000000 in
theorem ruleOf_any (k : Int) (w : World) : Calls Try.prog 73 #[.int .i64 k] w fun e w' => e = .returned (.tuple #[ruleV k, .bool (okK k)]) ∧ Below w.heap.size w w' := by
  by_cases h : 0 ≤ k ∧ k ≤ 16
  · rcases kinds h with rfl | rfl | rfl | rfl | rfl | rfl | rfl | rfl | rfl | rfl | rfl | rfl | rfl | rfl | rfl | rfl | rfl
    all_goals clear h
    · go_enter Try.func73, Try.ntmps73
      go_wp2
      exact bodyPost_ret (v := .tuple #[.agg #[.int .i64 1, .int .i64 0, .bool false, .int .i64 1], .bool true]) (by simp [results, Try.results73, go_sem]) rfl ⟨rfl, by repeat (first | with_reducible exact bl_refl _ | with_reducible refine bl_set ?_ (Nat.le_refl _) _ | with_reducible refine bl_alloc ?_ _)⟩
    · go_enter Try.func73, Try.ntmps73
      go_wp2
      exact bodyPost_ret (v := .tuple #[.agg #[.int .i64 3, .int .i64 0, .bool false, .int .i64 1], .bool true]) (by simp [results, Try.results73, go_sem]) rfl ⟨rfl, by repeat (first | with_reducible exact bl_refl _ | with_reducible refine bl_set ?_ (Nat.le_refl _) _ | with_reducible refine bl_alloc ?_ _)⟩
    · go_enter Try.func73, Try.ntmps73
      go_wp2
      exact bodyPost_ret (v := .tuple #[.agg #[.int .i64 2, .int .i64 0, .bool false, .int .i64 1], .bool true]) (by simp [results, Try.results73, go_sem]) rfl ⟨rfl, by repeat (first | with_reducible exact bl_refl _ | with_reducible refine bl_set ?_ (Nat.le_refl _) _ | with_reducible refine bl_alloc ?_ _)⟩
    · go_enter Try.func73, Try.ntmps73
      go_wp2
      exact bodyPost_ret (v := .tuple #[.agg #[.int .i64 2, .int .i64 0, .bool false, .int .i64 1], .bool true]) (by simp [results, Try.results73, go_sem]) rfl ⟨rfl, by repeat (first | with_reducible exact bl_refl _ | with_reducible refine bl_set ?_ (Nat.le_refl _) _ | with_reducible refine bl_alloc ?_ _)⟩
    · go_enter Try.func73, Try.ntmps73
      go_wp2
      exact bodyPost_ret (v := .tuple #[.agg #[.int .i64 4, .int .i64 0, .bool false, .int .i64 0], .bool true]) (by simp [results, Try.results73, go_sem]) rfl ⟨rfl, by repeat (first | with_reducible exact bl_refl _ | with_reducible refine bl_set ?_ (Nat.le_refl _) _ | with_reducible refine bl_alloc ?_ _)⟩
    · go_enter Try.func73, Try.ntmps73
      go_wp2
      exact bodyPost_ret (v := .tuple #[.agg #[.int .i64 0, .int .i64 2, .bool false, .int .i64 0], .bool true]) (by simp [results, Try.results73, go_sem]) rfl ⟨rfl, by repeat (first | with_reducible exact bl_refl _ | with_reducible refine bl_set ?_ (Nat.le_refl _) _ | with_reducible refine bl_alloc ?_ _)⟩
    · go_enter Try.func73, Try.ntmps73
      go_wp2
      exact bodyPost_ret (v := .tuple #[.agg #[.int .i64 0, .int .i64 2, .bool false, .int .i64 0], .bool true]) (by simp [results, Try.results73, go_sem]) rfl ⟨rfl, by repeat (first | with_reducible exact bl_refl _ | with_reducible refine bl_set ?_ (Nat.le_refl _) _ | with_reducible refine bl_alloc ?_ _)⟩
    · go_enter Try.func73, Try.ntmps73
      go_wp2
      exact bodyPost_ret (v := .tuple #[.agg #[.int .i64 0, .int .i64 2, .bool false, .int .i64 0], .bool true]) (by simp [results, Try.results73, go_sem]) rfl ⟨rfl, by repeat (first | with_reducible exact bl_refl _ | with_reducible refine bl_set ?_ (Nat.le_refl _) _ | with_reducible refine bl_alloc ?_ _)⟩
    · go_enter Try.func73, Try.ntmps73
      go_wp2
      exact bodyPost_ret (v := .tuple #[.agg #[.int .i64 1, .int .i64 2, .bool false, .int .i64 2], .bool true]) (by simp [results, Try.results73, go_sem]) rfl ⟨rfl, by repeat (first | with_reducible exact bl_refl _ | with_reducible refine bl_set ?_ (Nat.le_refl _) _ | with_reducible refine bl_alloc ?_ _)⟩
    · go_enter Try.func73, Try.ntmps73
      go_wp2
      exact bodyPost_ret (v := .tuple #[.agg #[.int .i64 3, .int .i64 1, .bool false, .int .i64 0], .bool true]) (by simp [results, Try.results73, go_sem]) rfl ⟨rfl, by repeat (first | with_reducible exact bl_refl _ | with_reducible refine bl_set ?_ (Nat.le_refl _) _ | with_reducible refine bl_alloc ?_ _)⟩
    · go_enter Try.func73, Try.ntmps73
      go_wp2
      exact bodyPost_ret (v := .tuple #[.agg #[.int .i64 1, .int .i64 1, .bool false, .int .i64 2], .bool true]) (by simp [results, Try.results73, go_sem]) rfl ⟨rfl, by repeat (first | with_reducible exact bl_refl _ | with_reducible refine bl_set ?_ (Nat.le_refl _) _ | with_reducible refine bl_alloc ?_ _)⟩
    · go_enter Try.func73, Try.ntmps73
      go_wp2
      exact bodyPost_ret (v := .tuple #[.agg #[.int .i64 3, .int .i64 1, .bool false, .int .i64 2], .bool true]) (by simp [results, Try.results73, go_sem]) rfl ⟨rfl, by repeat (first | with_reducible exact bl_refl _ | with_reducible refine bl_set ?_ (Nat.le_refl _) _ | with_reducible refine bl_alloc ?_ _)⟩
    · go_enter Try.func73, Try.ntmps73
      go_wp2
      exact bodyPost_ret (v := .tuple #[.agg #[.int .i64 1, .int .i64 1, .bool true, .int .i64 0], .bool true]) (by simp [results, Try.results73, go_sem]) rfl ⟨rfl, by repeat (first | with_reducible exact bl_refl _ | with_reducible refine bl_set ?_ (Nat.le_refl _) _ | with_reducible refine bl_alloc ?_ _)⟩
    · go_enter Try.func73, Try.ntmps73
      go_wp2
      exact bodyPost_ret (v := .tuple #[.agg #[.int .i64 0, .int .i64 1, .bool true, .int .i64 0], .bool true]) (by simp [results, Try.results73, go_sem]) rfl ⟨rfl, by repeat (first | with_reducible exact bl_refl _ | with_reducible refine bl_set ?_ (Nat.le_refl _) _ | with_reducible refine bl_alloc ?_ _)⟩
    · go_enter Try.func73, Try.ntmps73
      go_wp2
      exact bodyPost_ret (v := .tuple #[.agg #[.int .i64 1, .int .i64 1, .bool true, .int .i64 2], .bool true]) (by simp [results, Try.results73, go_sem]) rfl ⟨rfl, by repeat (first | with_reducible exact bl_refl _ | with_reducible refine bl_set ?_ (Nat.le_refl _) _ | with_reducible refine bl_alloc ?_ _)⟩
    · go_enter Try.func73, Try.ntmps73
      go_wp2
      exact bodyPost_ret (v := .tuple #[.agg #[.int .i64 1, .int .i64 1, .bool false, .int .i64 0], .bool true]) (by simp [results, Try.results73, go_sem]) rfl ⟨rfl, by repeat (first | with_reducible exact bl_refl _ | with_reducible refine bl_set ?_ (Nat.le_refl _) _ | with_reducible refine bl_alloc ?_ _)⟩
    · go_enter Try.func73, Try.ntmps73
      go_wp2
      exact bodyPost_ret (v := .tuple #[.agg #[.int .i64 1, .int .i64 1, .bool false, .int .i64 1], .bool true]) (by simp [results, Try.results73, go_sem]) rfl ⟨rfl, by repeat (first | with_reducible exact bl_refl _ | with_reducible refine bl_set ?_ (Nat.le_refl _) _ | with_reducible refine bl_alloc ?_ _)⟩
  · have hc : ruleV k = .agg #[.int .i64 0, .int .i64 0, .bool false, .int .i64 0] := by
      have h1 : cntK k = 0 := by unfold cntK; repeat' rw [if_neg (by omega)]
      have h2 : kidsK k = 0 := by unfold kidsK; repeat' rw [if_neg (by omega)]
      have h3 : sgK k = 0 := by unfold sgK; repeat' rw [if_neg (by omega)]
      have h4 : axK k = false := by simp [axK]; omega
      unfold ruleV; rw [h1, h2, h3, h4]; rfl
    have ho : okK k = false := by simp [okK]; omega
    have q0 := kne (n := 0) h (by omega)
    have q1 := kne (n := 1) h (by omega)
    have q2 := kne (n := 2) h (by omega)
    have q3 := kne (n := 3) h (by omega)
    have q4 := kne (n := 4) h (by omega)
    have q5 := kne (n := 5) h (by omega)
    have q6 := kne (n := 6) h (by omega)
    have q7 := kne (n := 7) h (by omega)
    have q8 := kne (n := 8) h (by omega)
    have q9 := kne (n := 9) h (by omega)
    have q10 := kne (n := 10) h (by omega)
    have q11 := kne (n := 11) h (by omega)
    have q12 := kne (n := 12) h (by omega)
    have q13 := kne (n := 13) h (by omega)
    have q14 := kne (n := 14) h (by omega)
    have q15 := kne (n := 15) h (by omega)
    have q16 := kne (n := 16) h (by omega)
    clear h
    rw [hc, ho]
    clear hc ho
    go_enter Try.func73, Try.ntmps73
    go_wp2
    exact bodyPost_ret (v := .tuple #[.agg #[.int .i64 0, .int .i64 0, .bool false, .int .i64 0], .bool false]) (by simp [results, Try.results73, go_sem]) rfl ⟨rfl, by repeat (first | with_reducible exact bl_refl _ | with_reducible refine bl_set ?_ (Nat.le_refl _) _ | with_reducible refine bl_alloc ?_ _)⟩
end Go.Proofs.Ytpbccoobkmahlaa
