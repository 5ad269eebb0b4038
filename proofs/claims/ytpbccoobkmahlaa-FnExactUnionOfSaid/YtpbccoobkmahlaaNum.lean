/- The contracts of the small functions on numbers that this claim reaches: what each returns, whatever the tape answers. No conditions but that bits fit their kind. -/
import Derived.Test.YtpbccoobkmahlaaRows
import Derived.Test.YtpbccoobkmahlaaOrd
namespace Go.Proofs.Ytpbccoobkmahlaa
open Go.Fl

@[go_sem] theorem run_f32bits (b : Nat) (w : World) : (callFunc 114 #[.float .f32 b]).run Try.prog w = .ok (.value (.int .u32 b)) w := by
  rw [run_callFunc_extern (e := Extern.MathFloatBits.float32bits) Try.func114 (by kernel_rfl) (by kernel_rfl) (by kernel_rfl) (by kernel_rfl)]; rfl

theorem l01Finite_any (x : Nat) (w : World) : Calls Try.prog 113 #[.float .f32 x] w (BOut w (isFin x)) := by
  go_enter Try.func113, Try.ntmps113
  go_wp2_with ((with_reducible refine wpList_fop ?_); refine ⟨_, _, _, ⟨rfl, rfl, rfl, rfl⟩, ?_⟩; intro r n hr)
  go_ret
  exact bout (by rw [isFin, ← order_congr hr.cn rfl]) rfl
theorem IsFinite_any (x : Nat) (w : World) : Calls Try.prog 105 #[.float .f32 x] w (BOut w (isFin x)) := by
  go_enter Try.func105, Try.ntmps105
  go_wp2_with ((with_reducible refine wpList_fop ?_); refine ⟨_, _, _, ⟨rfl, rfl, rfl, rfl⟩, ?_⟩; intro r n hr)
  go_ret
  exact bout (by rw [isFin, ← order_congr hr.cn rfl]) rfl
theorem isNaN_any (x : Nat) (w : World) : Calls Try.prog 115 #[.float .f32 x] w (BOut w (isNan .f32 x)) := by
  go_enter Try.func115, Try.ntmps115
  go_wp2
  go_ret
  exact bout (n := 0) (by cases h : isNan .f32 x <;> simp [order_self, order_self_nan, h]) rfl
theorem l01Bits_any (x : Nat) (hx : x < 4294967296) (w : World) : Calls Try.prog 101 #[.float .f32 x] w (IOut w .i64 (bitsI x)) := by
  cases h : isNan .f32 x
  · have hb : bitsI x = x := by rw [bitsI, cn_of_not h]
    have ho := order_self h
    clear h
    have Hb := Lib.hid hb
    clear hb
    go_enter Try.func101, Try.ntmps101
    go_wp2
    go_ret
    exact ⟨ret_int (by rw [Hb.out]), 0, rfl⟩
  · have hb : bitsI x = 2143289344 := by rw [bitsI, cn_of_nan h]; rfl
    have ho := order_self_nan h
    clear h
    have Hb := Lib.hid hb
    clear hb
    go_enter Try.func101, Try.ntmps101
    go_wp2
    go_ret
    exact ⟨ret_int (by rw [Hb.out]), 0, rfl⟩
theorem l01Same_any (x y : Nat) (hx : x < 4294967296) (hy : y < 4294967296) (w : World) : Calls Try.prog 86 #[.float .f32 x, .float .f32 y] w (BOut w (bitsI x == bitsI y)) := by
  go_enter Try.func86, Try.ntmps86
  go_wp2_with fail
  refine (l01Bits_any _ hx _).mono ?_
  rintro e w' ⟨rfl, n, rfl⟩
  go_wp2_with fail
  refine (l01Bits_any _ hy _).mono ?_
  rintro e w' ⟨rfl, m, rfl⟩
  go_wp2_with fail
  go_ret
  exact ⟨rfl, _, rfl⟩
theorem same_nn {x y : Nat} (h : isNan .f32 x = false) (h' : isNan .f32 y = false) : ((x : Int) == y) = (bitsI x == bitsI y) := by
  rw [bitsI, bitsI, cn_of_not h, cn_of_not h']
theorem same_ny {x y : Nat} (h : isNan .f32 x = false) (h' : isNan .f32 y = true) : (bitsI x == bitsI y) = false := by
  rw [bitsI, bitsI, cn_of_not h, cn_of_nan h']
  have := not_nan32 h
  refine beq_eq_false_iff_ne.2 ?_
  intro e
  have e2 : x = nanW .f32 := by omega
  rw [e2, show nanW .f32 = 2143289344 from rfl] at this
  omega
theorem SameNumber_any (x y : Nat) (w : World) : Calls Try.prog 103 #[.float .f32 x, .float .f32 y] w (BOut w (bitsI x == bitsI y)) := by
  cases h : isNan .f32 x <;> cases h' : isNan .f32 y
  · have hs := Lib.hid (same_nn h h')
    go_enter Try.func103, Try.ntmps103
    go_wp2_with (go_at_call 115; refine (isNaN_any _ _).mono ?_; rintro e w' ⟨rfl, n, rfl⟩)
    go_ret
    exact ⟨ret_bool hs.out, _, rfl⟩
  · have hs := Lib.hid (same_ny h h')
    go_enter Try.func103, Try.ntmps103
    go_wp2_with (go_at_call 115; refine (isNaN_any _ _).mono ?_; rintro e w' ⟨rfl, n, rfl⟩)
    go_ret
    exact ⟨ret_bool hs.out.symm, _, rfl⟩
  · have hs := Lib.hid ((Bool.beq_comm.trans (same_ny h' h) : (bitsI x == bitsI y) = false))
    go_enter Try.func103, Try.ntmps103
    go_wp2_with (go_at_call 115; refine (isNaN_any _ _).mono ?_; rintro e w' ⟨rfl, n, rfl⟩)
    go_ret
    exact ⟨ret_bool hs.out.symm, _, rfl⟩
  · have hs := Lib.hid (show (bitsI x == bitsI y) = true by rw [bitsI, bitsI, cn_of_nan h, cn_of_nan h']; exact beq_self_eq_true _)
    go_enter Try.func103, Try.ntmps103
    go_wp2_with (go_at_call 115; refine (isNaN_any _ _).mono ?_; rintro e w' ⟨rfl, n, rfl⟩)
    go_ret
    exact ⟨ret_bool hs.out.symm, _, rfl⟩
theorem sameFloat_nan (a b : Nat) (h : isNan .f64 a = true) (h' : isNan .f64 b = true) (w : World) : Calls Try.prog 46 #[.float .f64 a, .float .f64 b] w (BOut w true) := by
  have ha := order_self_nan h
  have hb := order_self_nan h'
  clear h h'
  go_enter Try.func46, Try.ntmps46
  go_wp2
  go_ret
  exact ⟨rfl, 0, rfl⟩
theorem sameFloat_self (a : Nat) (h : isNan .f64 a = false) (w : World) : Calls Try.prog 46 #[.float .f64 a, .float .f64 a] w (BOut w true) := by
  have ha := order_self h
  clear h
  cases hz : (FloatKind.f64.format.order a 0 == some .eq)
  · go_enter Try.func46, Try.ntmps46
    go_wp2
    go_ret
    exact ⟨rfl, 0, rfl⟩
  · go_enter Try.func46, Try.ntmps46
    go_wp2_with ((with_reducible refine wpList_fop ?_); refine ⟨_, _, _, ⟨rfl, rfl, rfl, rfl⟩, ?_⟩; intro r n hr)
    rename_i r1 n1 hr1
    go_ret
    refine ⟨ret_bool ?_, _, rfl⟩
    rw [order_congr (hr1.cn.trans hr.cn.symm) rfl]
    exact beq_self_eq_true _
theorem sameFloat_true (a b : Nat) (h : cn .f64 a = cn .f64 b) (w : World) : Calls Try.prog 46 #[.float .f64 a, .float .f64 b] w (BOut w true) := by
  cases ha : isNan .f64 a
  · obtain rfl := eq_of_cn h ha
    exact sameFloat_self a ha w
  · exact sameFloat_nan a b ha (by rw [← isNan_of_cn h, ha]) w
end Go.Proofs.Ytpbccoobkmahlaa
