/- The contracts of the small functions on numbers that this claim reaches: what each returns, whatever the tape answers. No conditions but that bits fit their kind. -/
import Derived.Test.YtepanenjhfmoiaaRows
import Derived.Test.YtepanenjhfmoiaaOrd
namespace Go.Proofs.Ytepanenjhfmoiaa
open Go.Fl


theorem l01Finite_any (x : Nat) (w : World) : Calls Try.prog 60 #[.float .f32 x] w (BOut w (isFin x)) := by
  go_enter Try.func60, Try.ntmps60
  go_wp2_with ((with_reducible refine wpList_fop ?_); refine ⟨_, _, _, ⟨rfl, rfl, rfl, rfl⟩, ?_⟩; intro r n hr)
  go_ret
  exact bout (by rw [isFin, ← order_congr hr.cn rfl]) rfl
theorem IsFinite_any (x : Nat) (w : World) : Calls Try.prog 34 #[.float .f32 x] w (BOut w (isFin x)) := by
  go_enter Try.func34, Try.ntmps34
  go_wp2_with ((with_reducible refine wpList_fop ?_); refine ⟨_, _, _, ⟨rfl, rfl, rfl, rfl⟩, ?_⟩; intro r n hr)
  go_ret
  exact bout (by rw [isFin, ← order_congr hr.cn rfl]) rfl
theorem isNaN_any (x : Nat) (w : World) : Calls Try.prog 59 #[.float .f32 x] w (BOut w (isNan .f32 x)) := by
  go_enter Try.func59, Try.ntmps59
  go_wp2
  go_ret
  exact bout (n := 0) (by cases h : isNan .f32 x <;> simp [order_self, order_self_nan, h]) rfl
theorem sameFloat_nan (a b : Nat) (h : isNan .f64 a = true) (h' : isNan .f64 b = true) (w : World) : Calls Try.prog 12 #[.float .f64 a, .float .f64 b] w (BOut w true) := by
  have ha := order_self_nan h
  have hb := order_self_nan h'
  clear h h'
  go_enter Try.func12, Try.ntmps12
  go_wp2
  go_ret
  exact ⟨rfl, 0, rfl⟩
theorem sameFloat_self (a : Nat) (h : isNan .f64 a = false) (w : World) : Calls Try.prog 12 #[.float .f64 a, .float .f64 a] w (BOut w true) := by
  have ha := order_self h
  clear h
  cases hz : (FloatKind.f64.format.order a 0 == some .eq)
  · go_enter Try.func12, Try.ntmps12
    go_wp2
    go_ret
    exact ⟨rfl, 0, rfl⟩
  · go_enter Try.func12, Try.ntmps12
    go_wp2_with ((with_reducible refine wpList_fop ?_); refine ⟨_, _, _, ⟨rfl, rfl, rfl, rfl⟩, ?_⟩; intro r n hr)
    rename_i r1 n1 hr1
    go_ret
    refine ⟨ret_bool ?_, _, rfl⟩
    rw [order_congr (hr1.cn.trans hr.cn.symm) rfl]
    exact beq_self_eq_true _
theorem sameFloat_true (a b : Nat) (h : cn .f64 a = cn .f64 b) (w : World) : Calls Try.prog 12 #[.float .f64 a, .float .f64 b] w (BOut w true) := by
  cases ha : isNan .f64 a
  · obtain rfl := eq_of_cn h ha
    exact sameFloat_self a ha w
  · exact sameFloat_nan a b ha (by rw [← isNan_of_cn h, ha]) w
end Go.Proofs.Ytepanenjhfmoiaa
