/- The contracts of the small functions on numbers that this claim reaches: what each returns, whatever the tape answers. No conditions but that bits fit their kind. -/
import Derived.Test.YtncmpbgekmaoeaaDoorRows
import Derived.Test.YtncmpbgekmaoeaaDoorOrd
namespace Go.Proofs.YtncmpbgekmaoeaaDoor
open Go.Fl

@[go_sem] theorem run_f32bits (b : Nat) (w : World) : (callFunc 69 #[.float .f32 b]).run Tryd.prog w = .ok (.value (.int .u32 b)) w := by
  rw [run_callFunc_extern (e := Extern.MathFloatBits.float32bits) Tryd.func69 (by kernel_rfl) (by kernel_rfl) (by kernel_rfl) (by kernel_rfl)]; rfl
@[go_sem] theorem run_f32from (n : Int) (w : World) : (callFunc 68 #[.int .u32 n]).run Tryd.prog w = .ok (.value (.float .f32 n.toNat)) w := by
  rw [run_callFunc_extern (e := Extern.MathFloatBits.float32frombits) Tryd.func68 (by kernel_rfl) (by kernel_rfl) (by kernel_rfl) (by kernel_rfl)]; rfl

theorem isNaN_any (x : Nat) (w : World) : Calls Tryd.prog 71 #[.float .f32 x] w (BOut w (isNan .f32 x)) := by
  go_enter Tryd.func71, Tryd.ntmps71
  go_wp2
  go_ret
  exact bout (n := 0) (by cases h : isNan .f32 x <;> simp [order_self, order_self_nan, h]) rfl
theorem l01Bits_any (x : Nat) (hx : x < 4294967296) (w : World) : Calls Tryd.prog 51 #[.float .f32 x] w (IOut w .i64 (bitsI x)) := by
  cases h : isNan .f32 x
  · have hb : bitsI x = x := by rw [bitsI, cn_of_not h]
    have ho := order_self h
    clear h
    have Hb := Lib.hid hb
    clear hb
    go_enter Tryd.func51, Tryd.ntmps51
    go_wp2
    go_ret
    exact ⟨ret_int (by rw [Hb.out]), 0, rfl⟩
  · have hb : bitsI x = 2143289344 := by rw [bitsI, cn_of_nan h]; rfl
    have ho := order_self_nan h
    clear h
    have Hb := Lib.hid hb
    clear hb
    go_enter Tryd.func51, Tryd.ntmps51
    go_wp2
    go_ret
    exact ⟨ret_int (by rw [Hb.out]), 0, rfl⟩
theorem BitsOf_any (x : Nat) (hx : x < 4294967296) (w : World) : Calls Tryd.prog 54 #[.float .f32 x] w (IOut w .i64 (bitsI x)) := by
  cases h : isNan .f32 x
  · have hb : bitsI x = x := by rw [bitsI, cn_of_not h]
    have Hb := Lib.hid hb
    clear hb
    go_enter Tryd.func54, Tryd.ntmps54
    go_wp2_with (go_at_call 71; refine (isNaN_any _ _).mono ?_; rintro e w' ⟨rfl, n, rfl⟩)
    go_ret
    exact ⟨ret_int (by rw [Hb.out]), _, rfl⟩
  · have hb : bitsI x = 2143289344 := by rw [bitsI, cn_of_nan h]; rfl
    have Hb := Lib.hid hb
    clear hb
    go_enter Tryd.func54, Tryd.ntmps54
    go_wp2_with (go_at_call 71; refine (isNaN_any _ _).mono ?_; rintro e w' ⟨rfl, n, rfl⟩)
    go_ret
    exact ⟨ret_int (by rw [Hb.out]), _, rfl⟩
theorem sameFloat_nan (a b : Nat) (h : isNan .f64 a = true) (h' : isNan .f64 b = true) (w : World) : Calls Tryd.prog 40 #[.float .f64 a, .float .f64 b] w (BOut w true) := by
  have ha := order_self_nan h
  have hb := order_self_nan h'
  clear h h'
  go_enter Tryd.func40, Tryd.ntmps40
  go_wp2
  go_ret
  exact ⟨rfl, 0, rfl⟩
theorem sameFloat_self (a : Nat) (h : isNan .f64 a = false) (w : World) : Calls Tryd.prog 40 #[.float .f64 a, .float .f64 a] w (BOut w true) := by
  have ha := order_self h
  clear h
  cases hz : (FloatKind.f64.format.order a 0 == some .eq)
  · go_enter Tryd.func40, Tryd.ntmps40
    go_wp2
    go_ret
    exact ⟨rfl, 0, rfl⟩
  · go_enter Tryd.func40, Tryd.ntmps40
    go_wp2_with ((with_reducible refine wpList_fop ?_); refine ⟨_, _, _, ⟨rfl, rfl, rfl, rfl⟩, ?_⟩; intro r n hr)
    rename_i r1 n1 hr1
    go_ret
    refine ⟨ret_bool ?_, _, rfl⟩
    rw [order_congr (hr1.cn.trans hr.cn.symm) rfl]
    exact beq_self_eq_true _
theorem sameFloat_true (a b : Nat) (h : cn .f64 a = cn .f64 b) (w : World) : Calls Tryd.prog 40 #[.float .f64 a, .float .f64 b] w (BOut w true) := by
  cases ha : isNan .f64 a
  · obtain rfl := eq_of_cn h ha
    exact sameFloat_self a ha w
  · exact sameFloat_nan a b ha (by rw [← isNan_of_cn h, ha]) w
end Go.Proofs.YtncmpbgekmaoeaaDoor
