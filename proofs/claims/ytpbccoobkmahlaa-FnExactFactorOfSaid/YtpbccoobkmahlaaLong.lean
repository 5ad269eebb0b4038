/- The length of a vector. No conditions but that bits fit their kind. -/
import Derived.Test.YtpbccoobkmahlaaEqv
import Derived.Test.YtpbccoobkmahlaaRoot
namespace Go.Proofs.Ytpbccoobkmahlaa
open Go.Fl Go.RowKit

theorem rootF_is {r x v : Nat} (h : Is .f32 r (rootF x)) (hx : Is .f32 x v) : Is .f32 r (rootF v) := by
  have e : rootF x = rootF v := by unfold rootF; rw [fwiden_congr hx.cn]
  rwa [e] at h
def longF (x y z : Nat) : Nat := rootF (innerF x y z x y z)
theorem LongOf_any (x y z : Nat) (w : World) : Calls Try.prog 96 #[.agg #[.float .f32 x, .float .f32 y, .float .f32 z]] w (FB w .f32 (longF x y z)) := by
  go_enter Try.func96, Try.ntmps96
  go_wp2_with (first | (go_at_call 111; refine (InnerOf_any _ _ _ _ _ _ _).mono ?_; rintro e w1 ⟨r, hr, rfl, hb⟩) | (go_at_call 110; refine (RootNumber_any _ _).mono ?_; rintro e w2 ⟨s, n, hs, rfl, rfl⟩))
  go_ret
  exact ⟨_, rootF_is hs hr, rfl, (by repeat (first | with_reducible exact bl_refl _ | with_reducible assumption | with_reducible refine bl_set ?_ (by simp <;> omega) _ | with_reducible refine bl_drewN ?_ _ | with_reducible refine bl_drew ?_ | with_reducible refine bl_alloc ?_ _ | with_reducible refine bl_call ?_ (by assumption)))⟩
theorem l01Long_any (x y z : Nat) (w : World) : Calls Try.prog 94 #[.agg #[.float .f32 x, .float .f32 y, .float .f32 z]] w (FB w .f32 (longF x y z)) := by
  go_enter Try.func94, Try.ntmps94
  go_wp2_with (first | (go_at_call 109; refine (l01Inner_any _ _ _ _ _ _ _).mono ?_; rintro e w1 ⟨r, hr, rfl, hb⟩) | (go_at_call 108; refine (l01Sqrt_any _ _).mono ?_; rintro e w2 ⟨s, n, hs, rfl, rfl⟩))
  go_ret
  exact ⟨_, rootF_is hs hr, rfl, (by repeat (first | with_reducible exact bl_refl _ | with_reducible assumption | with_reducible refine bl_set ?_ (by simp <;> omega) _ | with_reducible refine bl_drewN ?_ _ | with_reducible refine bl_drew ?_ | with_reducible refine bl_alloc ?_ _ | with_reducible refine bl_call ?_ (by assumption)))⟩
end Go.Proofs.Ytpbccoobkmahlaa
