/- The contracts of the small functions on numbers that this claim reaches: what each returns, whatever the tape answers. No conditions but that bits fit their kind. -/
import Derived.Test.YtnjbmcjneigcpaaRows
import Derived.Test.YtnjbmcjneigcpaaOrd
namespace Go.Proofs.Ytnjbmcjneigcpaa
open Go.Fl

@[go_sem] theorem run_f32bits (b : Nat) (w : World) : (callFunc 45 #[.float .f32 b]).run Try.prog w = .ok (.value (.int .u32 b)) w := by
  rw [run_callFunc_extern (e := Extern.MathFloatBits.float32bits) Try.func45 (by kernel_rfl) (by kernel_rfl) (by kernel_rfl) (by kernel_rfl)]; rfl
@[go_sem] theorem run_f32from (n : Int) (w : World) : (callFunc 51 #[.int .u32 n]).run Try.prog w = .ok (.value (.float .f32 n.toNat)) w := by
  rw [run_callFunc_extern (e := Extern.MathFloatBits.float32frombits) Try.func51 (by kernel_rfl) (by kernel_rfl) (by kernel_rfl) (by kernel_rfl)]; rfl

theorem l01Finite_any (x : Nat) (w : World) : Calls Try.prog 40 #[.float .f32 x] w (BOut w (isFin x)) := by
  go_enter Try.func40, Try.ntmps40
  go_wp2_with ((with_reducible refine wpList_fop ?_); refine ⟨_, _, _, ⟨rfl, rfl, rfl, rfl⟩, ?_⟩; intro r n hr)
  go_ret
  exact bout (by rw [isFin, ← order_congr hr.cn rfl]) rfl
theorem spec_IsFinite_any (x : Nat) (w : World) : Calls Try.prog 15 #[.float .f32 x] w (BOut w (isFin x)) := by
  go_enter Try.func15, Try.ntmps15
  go_wp2_with (go_at_call 40; refine (l01Finite_any _ _).mono ?_; rintro e w' ⟨rfl, n, rfl⟩)
  go_ret
  exact bout rfl rfl
theorem IsFinite_any (x : Nat) (w : World) : Calls Try.prog 16 #[.float .f32 x] w (BOut w (isFin x)) := by
  go_enter Try.func16, Try.ntmps16
  go_wp2_with ((with_reducible refine wpList_fop ?_); refine ⟨_, _, _, ⟨rfl, rfl, rfl, rfl⟩, ?_⟩; intro r n hr)
  go_ret
  exact bout (by rw [isFin, ← order_congr hr.cn rfl]) rfl
theorem isNaN_any (x : Nat) (w : World) : Calls Try.prog 44 #[.float .f32 x] w (BOut w (isNan .f32 x)) := by
  go_enter Try.func44, Try.ntmps44
  go_wp2
  go_ret
  exact bout (n := 0) (by cases h : isNan .f32 x <;> simp [order_self, order_self_nan, h]) rfl
theorem l01Bits_any (x : Nat) (hx : x < 4294967296) (w : World) : Calls Try.prog 42 #[.float .f32 x] w (IOut w .i64 (bitsI x)) := by
  cases h : isNan .f32 x
  · have hb : bitsI x = x := by rw [bitsI, cn_of_not h]
    have ho := order_self h
    clear h
    have Hb := Lib.hid hb
    clear hb
    go_enter Try.func42, Try.ntmps42
    go_wp2
    go_ret
    exact ⟨ret_int (by rw [Hb.out]), 0, rfl⟩
  · have hb : bitsI x = 2143289344 := by rw [bitsI, cn_of_nan h]; rfl
    have ho := order_self_nan h
    clear h
    have Hb := Lib.hid hb
    clear hb
    go_enter Try.func42, Try.ntmps42
    go_wp2
    go_ret
    exact ⟨ret_int (by rw [Hb.out]), 0, rfl⟩
theorem BitsOf_any (x : Nat) (hx : x < 4294967296) (w : World) : Calls Try.prog 23 #[.float .f32 x] w (IOut w .i64 (bitsI x)) := by
  cases h : isNan .f32 x
  · have hb : bitsI x = x := by rw [bitsI, cn_of_not h]
    have Hb := Lib.hid hb
    clear hb
    go_enter Try.func23, Try.ntmps23
    go_wp2_with (go_at_call 44; refine (isNaN_any _ _).mono ?_; rintro e w' ⟨rfl, n, rfl⟩)
    go_ret
    exact ⟨ret_int (by rw [Hb.out]), _, rfl⟩
  · have hb : bitsI x = 2143289344 := by rw [bitsI, cn_of_nan h]; rfl
    have Hb := Lib.hid hb
    clear hb
    go_enter Try.func23, Try.ntmps23
    go_wp2_with (go_at_call 44; refine (isNaN_any _ _).mono ?_; rintro e w' ⟨rfl, n, rfl⟩)
    go_ret
    exact ⟨ret_int (by rw [Hb.out]), _, rfl⟩
theorem spec_BitsOf_any (x : Nat) (hx : x < 4294967296) (w : World) : Calls Try.prog 22 #[.float .f32 x] w (IOut w .i64 (bitsI x)) := by
  go_enter Try.func22, Try.ntmps22
  go_wp2_with (go_at_call 42; refine (l01Bits_any _ hx _).mono ?_; rintro e w' ⟨rfl, n, rfl⟩)
  go_ret
  exact ⟨rfl, _, rfl⟩
theorem l01Same_any (x y : Nat) (hx : x < 4294967296) (hy : y < 4294967296) (w : World) : Calls Try.prog 46 #[.float .f32 x, .float .f32 y] w (BOut w (bitsI x == bitsI y)) := by
  go_enter Try.func46, Try.ntmps46
  go_wp2_with fail
  refine (l01Bits_any _ hx _).mono ?_
  rintro e w' ⟨rfl, n, rfl⟩
  go_wp2_with fail
  refine (l01Bits_any _ hy _).mono ?_
  rintro e w' ⟨rfl, m, rfl⟩
  go_wp2_with fail
  go_ret
  exact ⟨rfl, _, rfl⟩
theorem abs_any (x : Nat) (hx : x < 4294967296) (w : World) : Calls Try.prog 43 #[.float .f32 x] w fun e w' => e = .returned (.float .f32 (x % 2147483648)) ∧ w' = w := by
  go_enter Try.func43, Try.ntmps43
  go_wp2
  go_ret
  refine ⟨?_, rfl⟩
  rw [← u32_abs x hx]; rfl
theorem IsSubnormal_any (x : Nat) (hx : x < 4294967296) (w : World) : Calls Try.prog 21 #[.float .f32 x] w (BOut w (isSub x)) := by
  by_cases h0 : x % 2147483648 = 0
  · have hne : (FloatKind.f32.format.order x 0 != some .eq) = false := by rw [ne_zero32 hx]; exact decide_eq_false (by omega)
    have hs := Lib.hid (isSub_zero h0)
    clear h0
    go_enter Try.func21, Try.ntmps21
    go_wp2_with (go_at_call 43; refine (abs_any _ hx _).mono ?_; rintro e w' ⟨rfl, rfl⟩)
    go_ret
    exact ⟨ret_bool hs.out.symm, 0, rfl⟩
  · have hne : (FloatKind.f32.format.order x 0 != some .eq) = true := by rw [ne_zero32 hx]; exact decide_eq_true h0
    have hs := Lib.hid (isSub_impl h0)
    clear h0
    go_enter Try.func21, Try.ntmps21
    go_wp2_with (go_at_call 43; refine (abs_any _ hx _).mono ?_; rintro e w' ⟨rfl, rfl⟩)
    go_ret
    exact ⟨ret_bool hs.out, 0, rfl⟩
theorem spec_IsSubnormal_any (x : Nat) (hx : x < 4294967296) (w : World) : Calls Try.prog 20 #[.float .f32 x] w (BOut w (isSub x)) := by
  by_cases h0 : x % 2147483648 = 0
  · have hne : (FloatKind.f32.format.order x 0 != some .eq) = false := by rw [ne_zero32 hx]; exact decide_eq_false (by omega)
    have hs := Lib.hid (isSub_zero h0)
    clear h0
    go_enter Try.func20, Try.ntmps20
    go_wp2_with (go_at_call 42; refine (l01Bits_any _ hx _).mono ?_; rintro e w' ⟨rfl, n, rfl⟩)
    go_ret
    exact ⟨ret_bool hs.out.symm, 0, rfl⟩
  · have hne : (FloatKind.f32.format.order x 0 != some .eq) = true := by rw [ne_zero32 hx]; exact decide_eq_true h0
    have hs := Lib.hid (isSub_spec hx h0)
    clear h0
    go_enter Try.func20, Try.ntmps20
    go_wp2_with (go_at_call 42; refine (l01Bits_any _ hx _).mono ?_; rintro e w' ⟨rfl, n, rfl⟩)
    go_ret
    exact ⟨ret_bool hs.out, n, rfl⟩
theorem spec_SameNumber_any (x y : Nat) (hx : x < 4294967296) (hy : y < 4294967296) (w : World) : Calls Try.prog 24 #[.float .f32 x, .float .f32 y] w (BOut w (bitsI x == bitsI y)) := by
  go_enter Try.func24, Try.ntmps24
  go_wp2_with fail
  refine (l01Same_any _ _ hx hy _).mono ?_
  rintro e w' ⟨rfl, n, rfl⟩
  go_wp2_with fail
  go_ret
  exact ⟨rfl, _, rfl⟩
theorem same_nn {x y : Nat} (h : isNan .f32 x = false) (h' : isNan .f32 y = false) : ((x : Int) == y) = (bitsI x == bitsI y) := by
  rw [bitsI, bitsI, cn_of_not h, cn_of_not h']
theorem same_ny {x y : Nat} (h : isNan .f32 x = false) (h' : isNan .f32 y = true) : (bitsI x == bitsI y) = false := by
  rw [bitsI, bitsI, cn_of_not h, cn_of_nan h']
  have := not_nan32 h
  refine beq_eq_false_iff_ne.2 ?_
  intro e
  have e2 : x = nanW .f32 := by omega
  rw [e2, show nanW .f32 = 2143289344 from rfl] at this
  omega
theorem SameNumber_any (x y : Nat) (w : World) : Calls Try.prog 25 #[.float .f32 x, .float .f32 y] w (BOut w (bitsI x == bitsI y)) := by
  cases h : isNan .f32 x <;> cases h' : isNan .f32 y
  · have hs := Lib.hid (same_nn h h')
    go_enter Try.func25, Try.ntmps25
    go_wp2_with (go_at_call 44; refine (isNaN_any _ _).mono ?_; rintro e w' ⟨rfl, n, rfl⟩)
    go_ret
    exact ⟨ret_bool hs.out, _, rfl⟩
  · have hs := Lib.hid (same_ny h h')
    go_enter Try.func25, Try.ntmps25
    go_wp2_with (go_at_call 44; refine (isNaN_any _ _).mono ?_; rintro e w' ⟨rfl, n, rfl⟩)
    go_ret
    exact ⟨ret_bool hs.out.symm, _, rfl⟩
  · have hs := Lib.hid ((Bool.beq_comm.trans (same_ny h' h) : (bitsI x == bitsI y) = false))
    go_enter Try.func25, Try.ntmps25
    go_wp2_with (go_at_call 44; refine (isNaN_any _ _).mono ?_; rintro e w' ⟨rfl, n, rfl⟩)
    go_ret
    exact ⟨ret_bool hs.out.symm, _, rfl⟩
  · have hs := Lib.hid (show (bitsI x == bitsI y) = true by rw [bitsI, bitsI, cn_of_nan h, cn_of_nan h']; exact beq_self_eq_true _)
    go_enter Try.func25, Try.ntmps25
    go_wp2_with (go_at_call 44; refine (isNaN_any _ _).mono ?_; rintro e w' ⟨rfl, n, rfl⟩)
    go_ret
    exact ⟨ret_bool hs.out.symm, _, rfl⟩
theorem sameFloat_nan (a b : Nat) (h : isNan .f64 a = true) (h' : isNan .f64 b = true) (w : World) : Calls Try.prog 19 #[.float .f64 a, .float .f64 b] w (BOut w true) := by
  have ha := order_self_nan h
  have hb := order_self_nan h'
  clear h h'
  go_enter Try.func19, Try.ntmps19
  go_wp2
  go_ret
  exact ⟨rfl, 0, rfl⟩
theorem sameFloat_self (a : Nat) (h : isNan .f64 a = false) (w : World) : Calls Try.prog 19 #[.float .f64 a, .float .f64 a] w (BOut w true) := by
  have ha := order_self h
  clear h
  cases hz : (FloatKind.f64.format.order a 0 == some .eq)
  · go_enter Try.func19, Try.ntmps19
    go_wp2
    go_ret
    exact ⟨rfl, 0, rfl⟩
  · go_enter Try.func19, Try.ntmps19
    go_wp2_with ((with_reducible refine wpList_fop ?_); refine ⟨_, _, _, ⟨rfl, rfl, rfl, rfl⟩, ?_⟩; intro r n hr)
    rename_i r1 n1 hr1
    go_ret
    refine ⟨ret_bool ?_, _, rfl⟩
    rw [order_congr (hr1.cn.trans hr.cn.symm) rfl]
    exact beq_self_eq_true _
theorem sameFloat_true (a b : Nat) (h : cn .f64 a = cn .f64 b) (w : World) : Calls Try.prog 19 #[.float .f64 a, .float .f64 b] w (BOut w true) := by
  cases ha : isNan .f64 a
  · obtain rfl := eq_of_cn h ha
    exact sameFloat_self a ha w
  · exact sameFloat_nan a b ha (by rw [← isNan_of_cn h, ha]) w
end Go.Proofs.Ytnjbmcjneigcpaa
