/- The sine: what it returns, whatever the tape answers. No conditions but that bits fit their kind. -/
import Derived.Test.YtepanenjhfmoiaaSineB
import Derived.Test.YtepanenjhfmoiaaLog
import Derived.Deep.DeepCutAuto
namespace Go.Fl
theorem trunc_aux (P : Program) (W : World) (d : Ieee.Datum) (N : Bool → Nat → Sem Value) (hd : d.isNaN = false) : Sem.run P (match d with
    | .nan s t => N s t
    | d' => pure (Value.float .f64 (FloatKind.f64.encode (d'.integral .zero)))) W = .ok (.float .f64 (FloatKind.f64.encode (d.integral .zero))) W := by
  cases d with
  | nan s t => cases hd
  | infinity s => rfl
  | number s m e => rfl
theorem run_trunc_entry {P : Program} (x : Nat) (hx : isNan .f64 x = false) (W : World) : (Extern.MathFloor.toIntegral "math.archTrunc" .zero #[.float .f64 x]).run P W = .ok (.float .f64 (truncB x)) W :=
  trunc_aux P W (FloatKind.f64.decode x) _ hx
end Go.Fl
namespace Go.Proofs.Ytepanenjhfmoiaa
open Go.Fl Go.RowKit

@[go_sem] theorem run_f64bits (b : Nat) (w : World) : (callFunc 55 #[.float .f64 b]).run Try.prog w = .ok (.value (.int .u64 b)) w := by
  rw [run_callFunc_extern (e := Extern.MathFloatBits.float64bits) Try.func55 (by kernel_rfl) (by kernel_rfl) (by kernel_rfl) (by kernel_rfl)]; rfl
theorem u64_abs (x : Nat) (hx : x < 18446744073709551616) : (bits BinOp.andNot IntKind.u64 (x : Int) 9223372036854775808).toNat = x % 9223372036854775808 := by
  rw [show (9223372036854775808 : Int) = ((9223372036854775808 : Nat) : Int) from rfl, u64_andNot_nat x 9223372036854775808 hx (by omega), Int.toNat_natCast]
  exact Nat.and_two_pow_sub_one_eq_mod x 63
theorem Abs_any (x : Nat) (hx : x < 18446744073709551616) (w : World) : Calls Try.prog 36 #[.float .f64 x] w fun e w' => e = .returned (.float .f64 (x % 9223372036854775808)) ∧ w' = w := by
  go_enter Try.func36, Try.ntmps36
  go_wp2
  go_ret
  refine ⟨?_, rfl⟩
  rw [← u64_abs x hx]; rfl
theorem run_archTrunc (x : Nat) (hx : isNan .f64 x = false) (w : World) : (callFunc 56 #[.float .f64 x]).run Try.prog w = .ok (.value (.float .f64 (truncB x))) w := by
  rw [run_callFunc_extern (e := Extern.MathFloor.toIntegral "math.archTrunc" .zero) Try.func56 (by kernel_rfl) (by kernel_rfl) (by kernel_rfl) (by kernel_rfl), run_trunc_entry x hx]; rfl
theorem Trunc_any (x : Nat) (hx : isNan .f64 x = false) (w : World) : Calls Try.prog 37 #[.float .f64 x] w fun e w' => e = .returned (.float .f64 (truncB x)) ∧ w' = w := by
  have H := run_archTrunc x hx
  go_enter Try.func37, Try.ntmps37
  go_wp2
  go_ret
  exact ⟨rfl, rfl⟩
theorem ltz_congr {x y : Nat} (h : Fl.cn .f64 x = Fl.cn .f64 y) : ltz x = ltz y := by unfold ltz; rw [order_congr h rfl]
theorem halfUp_congr {x y : Nat} (h : Fl.cn .f64 x = Fl.cn .f64 y) : halfUp x = halfUp y := by unfold halfUp; rw [order_congr h rfl]
theorem overQ_congr {x y : Nat} (h : Fl.cn .f64 x = Fl.cn .f64 y) : overQ x = overQ y := by unfold overQ; rw [order_congr h rfl]
theorem s1_yes {f t v : Nat} (hb : ltz f = true) (hf : Is .f64 f v) (ht : Is .f64 t (fop .add .f64 f 4607182418800017408)) : Is .f64 t (s1 v) := by
  unfold s1; rw [← ltz_congr hf.cn, if_pos hb]; exact ht.op hf.cn rfl
theorem s1_no {f v : Nat} (hb : ltz f = false) (hf : Is .f64 f v) : Is .f64 f (s1 v) := by
  unfold s1; rw [← ltz_congr hf.cn, hb]; exact hf
theorem s2_yes {f t v : Nat} (hb : halfUp f = true) (hf : Is .f64 f v) (ht : Is .f64 t (fop .sub .f64 f 4602678819172646912)) : Is .f64 t (s2 v) := by
  unfold s2; rw [← halfUp_congr hf.cn, if_pos hb]; exact ht.op hf.cn rfl
theorem s2_no {f v : Nat} (hb : halfUp f = false) (hf : Is .f64 f v) : Is .f64 f (s2 v) := by
  unfold s2; rw [← halfUp_congr hf.cn, hb]; exact hf
theorem s3_yes {f t v : Nat} (hb : overQ f = true) (hf : Is .f64 f v) (ht : Is .f64 t (fop .sub .f64 4602678819172646912 f)) : Is .f64 t (s3 v) := by
  unfold s3; rw [← overQ_congr hf.cn, if_pos hb]; exact ht.op rfl hf.cn
theorem s3_no {f v : Nat} (hb : overQ f = false) (hf : Is .f64 f v) : Is .f64 f (s3 v) := by
  unfold s3; rw [← overQ_congr hf.cn, hb]; exact hf
theorem pS_congr {u u' : Nat} (h : Fl.cn .f64 u = Fl.cn .f64 u') : ∀ j, Fl.cn .f64 (pS u j) = Fl.cn .f64 (pS u' j)
  | 0 => rfl
  | j + 1 => by
    unfold pS
    have h1 : Fl.cn .f64 (fop .mul .f64 u (pS u j)) = Fl.cn .f64 (fop .mul .f64 u' (pS u' j)) := by rw [fop_congr h (pS_congr h j)]
    rw [fop_congr rfl (show Fl.cn .f64 (fop .quo .f64 (fop .mul .f64 u (pS u j)) _) = Fl.cn .f64 (fop .quo .f64 (fop .mul .f64 u' (pS u' j)) _) by rw [fop_congr h1 rfl])]
theorem pS_is {u j a b p r : Nat} {c : Int} (hc : RowKit.Hid (c = 2 * (8 - (j : Int)) * (2 * (8 - (j : Int)) + 1))) (hp : Is .f64 p (pS u j)) (ha : Is .f64 a (fop .mul .f64 u p)) (hb : Is .f64 b (fop .quo .f64 a (floatOfInt .f64 c))) (hr : Is .f64 r (fop .sub .f64 4607182418800017408 b)) : Is .f64 r (pS u (j + 1)) := by
  rw [hc.out] at hb
  exact hr.op rfl (hb.op (ha.op rfl hp.cn).cn rfl).cn
theorem outS_is {z v u p r : Nat} (hz : Is .f64 z v) (hu : Is .f64 u (fop .mul .f64 z z)) (hp : Is .f64 p (pS u 8)) (hr : Is .f64 r (fop .mul .f64 z p)) : Is .f64 r (outS v) := by
  have h1 := hu.op hz.cn hz.cn
  exact hr.op hz.cn (hp.trans (pS_congr h1.cn 8)).cn
theorem tail_up {y f b f3 z u p r : Nat} (hF : f = fracF y) (h : finW y = true) (h2 : y % 9223372036854775808 < 4841369599423283200) (hb1 : Is .f64 b (s1 f)) (hb : halfUp b = true) (h3 : Is .f64 f3 (s3 (s2 (s1 f)))) (hz : Is .f64 z (fop .mul .f64 f3 4618760256179416344)) (hu : Is .f64 u (fop .mul .f64 z z)) (hp : Is .f64 p (pS u 8)) (hr : Is .f64 r (fop .mul .f64 z p)) : Is .f64 (ng64 r) (sineW y) := by
  unfold sineW
  rw [h, if_neg (by simp), if_neg (by omega)]
  unfold tailS
  rw [← hF, ← halfUp_congr hb1.cn, if_pos hb]
  exact ng64_is (outS_is (hz.op h3.cn rfl) hu hp hr)
theorem tail_low {y f b f3 z u p r : Nat} (hF : f = fracF y) (h : finW y = true) (h2 : y % 9223372036854775808 < 4841369599423283200) (hb1 : Is .f64 b (s1 f)) (hb : halfUp b = false) (h3 : Is .f64 f3 (s3 (s2 (s1 f)))) (hz : Is .f64 z (fop .mul .f64 f3 4618760256179416344)) (hu : Is .f64 u (fop .mul .f64 z z)) (hp : Is .f64 p (pS u 8)) (hr : Is .f64 r (fop .mul .f64 z p)) : Is .f64 r (sineW y) := by
  unfold sineW
  rw [h, if_neg (by simp), if_neg (by omega)]
  unfold tailS
  rw [← hF, ← halfUp_congr hb1.cn, hb]
  exact outS_is (hz.op h3.cn rfl) hu hp hr
theorem sineW_nan {y : Nat} (h : finW y = false) : sineW y = nanW .f64 := by unfold sineW; rw [h]; rfl
theorem sineW_big {y : Nat} (h : finW y = true) (h2 : 4841369599423283200 ≤ y % 9223372036854775808) : sineW y = 0 := by unfold sineW; rw [h, if_neg (by simp), if_pos h2]
theorem sineW_congr {x y : Nat} (h : Fl.cn .f64 x = Fl.cn .f64 y) : sineW x = sineW y := by
  cases hn : isNan .f64 x
  · rw [eq_of_cn h hn]
  · have f1 : finW x = false := by unfold finW; rw [fop_nan_l _ _ hn, order_nan_left _ (isNan_nanW .f64)]; rfl
    rw [sineW_nan f1, sineW_nan (by rw [← finW_congr h, f1])]
def sineF (x : Nat) : Nat := fnarrow (sineW (fwiden x))
theorem sine_ov' {q r : Nat} (hq : q < 18446744073709551616) (hr : Is .f64 r (sineW q)) : overflows r = false := by
  rw [overflows_congr hr.cn, sine_ov hq]
theorem sine_is {x q r s : Nat} (hq : Is .f64 q (fwiden x)) (hr : Is .f64 r (sineW q)) (hs : Is .f32 s (fnarrow r)) : Is .f32 s (sineF x) := by
  unfold sineF
  rw [← sineW_congr hq.cn, ← fnarrow_congr hr.cn]; exact hs
theorem fin_of {x q : Nat} (hq : Is .f64 q (fwiden x)) : finW q = isFin x := by rw [finW_congr hq.cn, fin_wide]
theorem coef_bd (k : Int) (h1 : 1 ≤ k) (h2 : k ≤ 8) : 0 ≤ 2 * k * (2 * k + 1) ∧ 2 * k * (2 * k + 1) ≤ 272 := by
  have : 2 * k * (2 * k + 1) ≤ 16 * 17 := Int.mul_le_mul (by omega) (by omega) (by omega) (by omega)
  have : 0 ≤ 2 * k * (2 * k + 1) := Int.mul_nonneg (by omega) (by omega)
  omega
theorem far_order {x : Nat} (hx : x < 18446744073709551616) (h1 : 4841369599423283200 ≤ x % 9223372036854775808) (h2 : x % 9223372036854775808 < 9218868437227405312) : ((FloatKind.f64.format.order x 4841369599423283200 == some .gt || FloatKind.f64.format.order x 4841369599423283200 == some .eq) || (FloatKind.f64.format.order x 14064741636278059008 == some .lt || FloatKind.f64.format.order x 14064741636278059008 == some .eq)) = true := by
  have e1 : FloatKind.f64.format.order x 4841369599423283200 = some (compare (key64 x) (key64 4841369599423283200)) := order64 hx (by omega) (by omega) (by omega)
  have e2 : FloatKind.f64.format.order x 14064741636278059008 = some (compare (key64 x) (key64 14064741636278059008)) := order64 hx (by omega) (by omega) (by omega)
  have k1 : key64 4841369599423283200 = 4841369599423283200 := by decide
  have k2 : key64 14064741636278059008 = -4841369599423283200 := by decide
  rw [k1] at e1
  rw [k2] at e2
  by_cases hs : x < 9223372036854775808
  · have kx : key64 x = (x : Int) := by unfold key64; rw [if_pos hs]
    rw [kx] at e1
    rcases Int.lt_or_eq_of_le (show (4841369599423283200 : Int) ≤ x by omega) with h | h
    · rw [Int.compare_eq_gt.2 h] at e1; rw [e1]; rfl
    · rw [← h, Int.compare_eq_eq.2 rfl] at e1; rw [e1]; rfl
  · have kx : key64 x = 9223372036854775808 - (x : Int) := by unfold key64; rw [if_neg hs]
    rw [kx] at e2
    rcases Int.lt_or_eq_of_le (show 9223372036854775808 - (x : Int) ≤ -4841369599423283200 by omega) with h | h
    · rw [Int.compare_eq_lt.2 h] at e2; rw [e2]; simp
    · rw [h, Int.compare_eq_eq.2 rfl] at e2; rw [e2]; simp
theorem near_order {x : Nat} (hx : x < 18446744073709551616) (h1 : x % 9223372036854775808 < 4841369599423283200) : FloatKind.f64.format.order x 4841369599423283200 = some .lt ∧ FloatKind.f64.format.order x 14064741636278059008 = some .gt :=
  ⟨ord_lt hx (by omega) (by omega) (by omega) (by unfold key64; rw [if_pos (show (4841369599423283200 : Nat) < 9223372036854775808 by omega)]; split <;> omega),
   ord_gt hx (by omega) (by omega) (by omega) (by unfold key64; rw [if_neg (show ¬ (14064741636278059008 : Nat) < 9223372036854775808 by omega)]; split <;> omega)⟩
theorem big_order {x : Nat} (h1 : 4841369599423283200 ≤ x % 9223372036854775808) (h2 : x % 9223372036854775808 < 9218868437227405312) : (FloatKind.f64.format.order (x % 9223372036854775808) 4841369599423283200 == some .gt || FloatKind.f64.format.order (x % 9223372036854775808) 4841369599423283200 == some .eq) = true := by
  refine geq_of ?_
  by_cases he : x % 9223372036854775808 = 4841369599423283200
  · right; rw [he]; exact pos_eq (by omega)
  · left; exact pos_gt (by omega) (by omega)
set_option maxHeartbeats 2000000 in
theorem SineTurns_any (x : Nat) (w : World) : Calls Try.prog 17 #[.float .f32 x] w (FOut w .f32 (sineF x)) := by
  go_enter Try.func17, Try.ntmps17
  go_upto_region 2 with (first | ((with_reducible refine wpList_widen ?_); refine ⟨_, ⟨rfl, rfl, by rw [Try.underlying22]; rfl, Try.underlying25⟩, ?_⟩; intro q n hq))
  have hqx := Lib.hid hq
  have hfw0 := fin_of hq
  have hlt := (lt64 _).1 hq.lt
  clear hq
  cases hF : isFin x
  · have HS := Lib.hid (sineW_nan (y := q) (by rw [hfw0, hF]))
    clear hfw0
    go_wp2_with (first | (go_at_call 34; refine (IsFinite_any _ _).mono ?_; rintro e w' ⟨rfl, n, rfl⟩) | (go_at_call 35; refine (NaN_any _).mono ?_; rintro e w' ⟨r, n, hr, rfl, rfl⟩) | ((with_reducible refine wpList_narrow ?_); refine ⟨_, ⟨rfl, rfl, by rw [Try.underlying25]; rfl, Try.underlying22⟩, sine_ov' (r := r) hlt (by rw [HS.out]; exact hr), ?_⟩; intro s m hs))
    go_ret
    exact ⟨_, _, sine_is hqx.out (by rw [HS.out]; exact hr) hs, rfl, rfl⟩
  · have hfw := Lib.hid (show finW q = true by rw [hfw0, hF])
    clear hfw0
    have hmx := (finW_number hfw.out).2
    have hqn := Lib.hid (finW_number hfw.out).1
    by_cases hbig : 4841369599423283200 ≤ q % 9223372036854775808
    · have HS := Lib.hid (sineW_big hfw.out hbig)
      have ho := big_order hbig hmx
      clear hmx hbig
      go_wp2_with (first | (go_at_call 34; refine (IsFinite_any _ _).mono ?_; rintro e w' ⟨rfl, n, rfl⟩) | (go_at_call 36; refine (Abs_any _ hlt _).mono ?_; rintro e w' ⟨rfl, rfl⟩))
      go_ret
      exact ⟨_, _, sine_is hqx.out (r := 0) (by rw [HS.out]; exact Is.refl (by decide)) (by exact (show Is .f32 0 (fnarrow 0) from by rw [show fnarrow 0 = 0 by decide +kernel]; exact Is.refl (by decide))), rfl, rfl⟩
    · have hsm := Lib.hid (show q % 9223372036854775808 < 4841369599423283200 by omega)
      have ho : FloatKind.f64.format.order (q % 9223372036854775808) 4841369599423283200 = some .lt := pos_lt (by omega) hsm.out
      have hfr := Lib.hid (frac_spec hlt hsm.out).2
      clear hmx hbig
      go_upto_if 26 with (first | (go_at_call 34; refine (IsFinite_any _ _).mono ?_; rintro e w' ⟨rfl, n, rfl⟩) | (go_at_call 36; refine (Abs_any _ hlt _).mono ?_; rintro e w' ⟨rfl, rfl⟩) | (go_at_call 37; refine (Trunc_any _ hqn.out _).mono ?_; rintro e w' ⟨rfl, rfl⟩))
      go_cut [3] (fun v3 wx => ∃ (f : Nat) (n : Nat), v3 = .float .f64 f ∧ Is .f64 f (fracF q) ∧ wx = w.drewN n)
      case first =>
        rcases hfr.out with ⟨hw0, hfe⟩ | ⟨hw0, hfe⟩
        · have HE := Lib.hid hfe
          have hw1 : (FloatKind.f64.format.order (truncB q) 0 != some .eq) = false := by rw [hw0]; rfl
          clear hfe hw0
          simp only [hw1]
          go_wp2_with fail
          go_meet
          exact ⟨_, _, rfl, by rw [HE.out]; exact Is.refl (by exact hqx.out.lt), rfl⟩
        · have HE := Lib.hid hfe
          clear hfe
          simp only [hw0]
          go_wp2_with (first | ((with_reducible refine wpList_fop ?_); refine ⟨_, _, _, ⟨rfl, rfl, rfl, rfl⟩, ?_⟩; intro t n3 ht))
          go_meet
          exact ⟨_, _, rfl, by unfold fracF; rw [← HE.out]; exact ht, rfl⟩
      case rest =>
        clear ho
        obtain ⟨f, n0, rfl, hf, rfl⟩ := hcut
        go_upto_if 31 with (first | ((with_reducible refine wpList_fop ?_); refine ⟨_, _, _, ⟨rfl, rfl, rfl, rfl⟩, ?_⟩; intro t n3 ht))
        go_cut [3] (fun s3 wx => ∃ (f : Nat) (n : Nat), s3 = .float .f64 f ∧ Is .f64 f (s1 (fracF q)) ∧ wx = w.drewN n)
        case first =>
          cases hT : ltz f
          · have HT := Lib.hid hT
            unfold ltz at hT
            simp only [hT]
            go_wp2_with fail
            go_meet
            exact ⟨_, _, rfl, s1_no HT.out hf, rfl⟩
          · have HT := Lib.hid hT
            unfold ltz at hT
            simp only [hT]
            go_wp2_with (first | ((with_reducible refine wpList_fop ?_); refine ⟨_, _, _, ⟨rfl, rfl, rfl, rfl⟩, ?_⟩; intro t n3 ht))
            go_meet
            exact ⟨_, _, rfl, s1_yes HT.out hf ht, rfl⟩
        case rest =>
          clear hf
          obtain ⟨b, n1, rfl, hb1, rfl⟩ := hcut
          cases hB : halfUp b
          · have HB := Lib.hid hB
            unfold halfUp at hB
            have hf := s2_no HB.out hb1
            go_upto_if 40 with fail
            go_cut [3] (fun v3 wx => ∃ (f : Nat) (n : Nat), v3 = .float .f64 f ∧ Is .f64 f (s3 (s2 (s1 (fracF q)))) ∧ wx = w.drewN n)
            case first =>
              cases hT : overQ b
              · have HT := Lib.hid hT
                unfold overQ at hT
                simp only [hT]
                go_wp2_with fail
                go_meet
                exact ⟨_, _, rfl, s3_no HT.out hf, rfl⟩
              · have HT := Lib.hid hT
                unfold overQ at hT
                simp only [hT]
                go_wp2_with (first | ((with_reducible refine wpList_fop ?_); refine ⟨_, _, _, ⟨rfl, rfl, rfl, rfl⟩, ?_⟩; intro t n3 ht))
                go_meet
                exact ⟨_, _, rfl, s3_yes HT.out hf ht, rfl⟩
            case rest =>
              clear hf
              obtain ⟨f3, n4, rfl, h3, rfl⟩ := hcut
              go_wp2_with (first | ((with_reducible refine wpList_fop ?_); refine ⟨_, _, _, ⟨rfl, rfl, rfl, rfl⟩, ?_⟩; intro u n5 hu))
              rename_i z n6 hz K0 a0
              go_loopw [8, 9] (fun ps ks wr => ∃ (j : Nat) (k : Int) (p n : Nat), RowKit.Hid (k = 8 - (j : Int)) ∧ j ≤ 8 ∧ 0 ≤ k ∧ k ≤ 8 ∧ ks = .int .i64 k ∧ ps = .float .f64 p ∧ Is .f64 p (pS u j) ∧ wr = w.drewN n) (fun _ k _ => (intOf k).toNat)
              case atStart => exact ⟨0, 8, _, _, Lib.hid (by omega), by omega, by omega, by omega, rfl, rfl, Is.refl (by decide), rfl⟩
              case round =>
                obtain ⟨j, k, p, n2, hk, hj, hk1, hk2, rfl, rfl, hp, rfl⟩ := hrel
                by_cases hge : 1 ≤ k
                · have hj2 : j < 8 := by have := hk.out; omega
                  have hc : RowKit.Hid (2 * k * (2 * k + 1) = 2 * (8 - (j : Int)) * (2 * (8 - (j : Int)) + 1)) := Lib.hid (by rw [hk.out])
                  have hcb := coef_bd k hge hk2
                  go_wp2_with (first | ((with_reducible refine wpList_fop ?_); refine ⟨_, _, _, ⟨rfl, rfl, rfl, rfl⟩, ?_⟩; intro t n3 ht))
                  rename_i t1 m1 e1 t2 m2 e2
                  go_roundw
                  case rel => exact ⟨j + 1, k - 1, _, _, Lib.hid (by have := hk.out; omega), by omega, by omega, by omega, rfl, rfl, pS_is hc hp e1 e2 ht, rfl⟩
                  case measure => simp [intOf]; omega
                · obtain rfl : j = 8 := by have := hk.out; omega
                  go_wp2_with (first | ((with_reducible refine wpList_fop ?_); refine ⟨_, _, _, ⟨rfl, rfl, rfl, rfl⟩, ?_⟩; intro t n3 ht) | ((with_reducible refine wpList_narrow ?_); refine ⟨_, ⟨rfl, rfl, by rw [Try.underlying25]; rfl, Try.underlying22⟩, sine_ov' hlt (tail_low rfl hfw.out hsm.out hb1 HB.out h3 hz hu hp (by assumption)), ?_⟩; intro s m hs))
                  go_ret
                  exact ⟨_, _, sine_is hqx.out (tail_low rfl hfw.out hsm.out hb1 HB.out h3 hz hu hp (by assumption)) hs, rfl, rfl⟩
          · have HB := Lib.hid hB
            unfold halfUp at hB
            go_upto_if 40 with (first | ((with_reducible refine wpList_fop ?_); refine ⟨_, _, _, ⟨rfl, rfl, rfl, rfl⟩, ?_⟩; intro f n3 ht; have hf := s2_yes HB.out hb1 ht; clear ht))
            go_cut [3] (fun v3 wx => ∃ (f : Nat) (n : Nat), v3 = .float .f64 f ∧ Is .f64 f (s3 (s2 (s1 (fracF q)))) ∧ wx = w.drewN n)
            case first =>
              cases hT : overQ f
              · have HT := Lib.hid hT
                unfold overQ at hT
                simp only [hT]
                go_wp2_with fail
                go_meet
                exact ⟨_, _, rfl, s3_no HT.out hf, rfl⟩
              · have HT := Lib.hid hT
                unfold overQ at hT
                simp only [hT]
                go_wp2_with (first | ((with_reducible refine wpList_fop ?_); refine ⟨_, _, _, ⟨rfl, rfl, rfl, rfl⟩, ?_⟩; intro t n3 ht))
                go_meet
                exact ⟨_, _, rfl, s3_yes HT.out hf ht, rfl⟩
            case rest =>
              clear hf
              obtain ⟨f3, n4, rfl, h3, rfl⟩ := hcut
              go_wp2_with (first | ((with_reducible refine wpList_fop ?_); refine ⟨_, _, _, ⟨rfl, rfl, rfl, rfl⟩, ?_⟩; intro u n5 hu))
              rename_i z n6 hz K0 a0
              go_loopw [8, 9] (fun ps ks wr => ∃ (j : Nat) (k : Int) (p n : Nat), RowKit.Hid (k = 8 - (j : Int)) ∧ j ≤ 8 ∧ 0 ≤ k ∧ k ≤ 8 ∧ ks = .int .i64 k ∧ ps = .float .f64 p ∧ Is .f64 p (pS u j) ∧ wr = w.drewN n) (fun _ k _ => (intOf k).toNat)
              case atStart => exact ⟨0, 8, _, _, Lib.hid (by omega), by omega, by omega, by omega, rfl, rfl, Is.refl (by decide), rfl⟩
              case round =>
                obtain ⟨j, k, p, n2, hk, hj, hk1, hk2, rfl, rfl, hp, rfl⟩ := hrel
                by_cases hge : 1 ≤ k
                · have hj2 : j < 8 := by have := hk.out; omega
                  have hc : RowKit.Hid (2 * k * (2 * k + 1) = 2 * (8 - (j : Int)) * (2 * (8 - (j : Int)) + 1)) := Lib.hid (by rw [hk.out])
                  have hcb := coef_bd k hge hk2
                  go_wp2_with (first | ((with_reducible refine wpList_fop ?_); refine ⟨_, _, _, ⟨rfl, rfl, rfl, rfl⟩, ?_⟩; intro t n3 ht))
                  rename_i t1 m1 e1 t2 m2 e2
                  go_roundw
                  case rel => exact ⟨j + 1, k - 1, _, _, Lib.hid (by have := hk.out; omega), by omega, by omega, by omega, rfl, rfl, pS_is hc hp e1 e2 ht, rfl⟩
                  case measure => simp [intOf]; omega
                · obtain rfl : j = 8 := by have := hk.out; omega
                  go_wp2_with (first | ((with_reducible refine wpList_fop ?_); refine ⟨_, _, _, ⟨rfl, rfl, rfl, rfl⟩, ?_⟩; intro t n3 ht) | ((with_reducible refine wpList_narrow ?_); refine ⟨_, ⟨rfl, rfl, by rw [Try.underlying25]; rfl, Try.underlying22⟩, sine_ov' hlt (tail_up rfl hfw.out hsm.out hb1 HB.out h3 hz hu hp (by assumption)), ?_⟩; intro s m hs))
                  go_ret
                  exact ⟨_, _, sine_is hqx.out (tail_up rfl hfw.out hsm.out hb1 HB.out h3 hz hu hp (by assumption)) hs, rfl, rfl⟩
set_option maxHeartbeats 2000000 in
theorem l01SineWide_any (q : Nat) (hlt : q < 18446744073709551616) (w : World) : Calls Try.prog 53 #[.float .f64 q] w (FOut w .f64 (sineW q)) := by
  obtain ⟨r0, m0, hr0, hrun⟩ : ∃ r n, Is .f64 r (fop .sub .f64 q q) ∧ (binOp .sub 25 (.float .f64 q) (.float .f64 q)).run Try.prog w = .ok (.float .f64 r) (w.drewN n) := ⟨_, _, fv_is w _ _ _ _, run_fopv rfl _ _ _ _ _⟩
  have hfe : (FloatKind.f64.format.order r0 0 == some .eq) = finW q := by unfold finW; rw [order_congr hr0.cn rfl]
  clear hr0
  cases hF : finW q
  · have HS := Lib.hid (sineW_nan hF)
    have ho : (FloatKind.f64.format.order r0 0 != some .eq) = true := by unfold bne; rw [hfe, hF]; rfl
    clear hfe hF
    go_enter Try.func53, Try.ntmps53
    go_wp2_with (go_at_call 35; refine (NaN_any _).mono ?_; rintro e w' ⟨r, n, hr, rfl, rfl⟩)
    go_ret
    exact ⟨_, _, by rw [HS.out]; exact hr, rfl, rfl⟩
  · have hfw := Lib.hid hF
    have ho : (FloatKind.f64.format.order r0 0 != some .eq) = false := by unfold bne; rw [hfe, hF]; rfl
    clear hfe hF
    have hmx := (finW_number hfw.out).2
    have hqn := Lib.hid (finW_number hfw.out).1
    by_cases hbig : 4841369599423283200 ≤ q % 9223372036854775808
    · have HS := Lib.hid (sineW_big hfw.out hbig)
      have ho2 := far_order hlt hbig hmx
      clear hmx hbig
      cases hU : (FloatKind.f64.format.order q 4841369599423283200 == some .gt || FloatKind.f64.format.order q 4841369599423283200 == some .eq)
      · rw [hU, Bool.false_or] at ho2
        go_enter Try.func53, Try.ntmps53
        go_wp2_with fail
        go_ret
        exact ⟨_, _, by rw [HS.out]; exact Is.refl (by decide), rfl, rfl⟩
      · clear ho2
        go_enter Try.func53, Try.ntmps53
        go_wp2_with fail
        go_ret
        exact ⟨_, _, by rw [HS.out]; exact Is.refl (by decide), rfl, rfl⟩
    · have hsm := Lib.hid (show q % 9223372036854775808 < 4841369599423283200 by omega)
      obtain ⟨ho2, ho3⟩ := near_order hlt hsm.out
      have hti := toInt_val hsm.out
      clear hmx hbig
      have htr : ∀ W : World, (convert 25 2 (.float .f64 q)).run Try.prog W = .ok (.int .i64 (truncI q)) W := fun W => run_convert_float_int (P := Try.prog) W 25 2 .f64 .i64 q (truncI q) (by rw [Try.underlying25]; rfl) Try.underlying2 hti
      clear hti
      go_enter Try.func53, Try.ntmps53
      go_upto_region 5 with fail
      go_upto_region 6 with (first | ((with_reducible refine wpList_fop ?_); refine ⟨_, _, _, ⟨rfl, rfl, rfl, rfl⟩, ?_⟩; intro f n0 hf))
      have hf : Is .f64 f (fracF q) := hf
      go_upto_if 26 with (first | ((with_reducible refine wpList_fop ?_); refine ⟨_, _, _, ⟨rfl, rfl, rfl, rfl⟩, ?_⟩; intro t n3 ht))
      go_cut [3] (fun s3 wx => ∃ (f : Nat) (n : Nat), s3 = .float .f64 f ∧ Is .f64 f (s1 (fracF q)) ∧ wx = w.drewN n)
      case first =>
        cases hT : ltz f
        · have HT := Lib.hid hT
          unfold ltz at hT
          simp only [hT]
          go_wp2_with fail
          go_meet
          exact ⟨_, _, rfl, s1_no HT.out hf, rfl⟩
        · have HT := Lib.hid hT
          unfold ltz at hT
          simp only [hT]
          go_wp2_with (first | ((with_reducible refine wpList_fop ?_); refine ⟨_, _, _, ⟨rfl, rfl, rfl, rfl⟩, ?_⟩; intro t n3 ht))
          go_meet
          exact ⟨_, _, rfl, s1_yes HT.out hf ht, rfl⟩
      case rest =>
        clear hf
        obtain ⟨b, n1, rfl, hb1, rfl⟩ := hcut
        cases hB : halfUp b
        · have HB := Lib.hid hB
          unfold halfUp at hB
          have hf := s2_no HB.out hb1
          go_upto_if 35 with fail
          go_cut [3] (fun v3 wx => ∃ (f : Nat) (n : Nat), v3 = .float .f64 f ∧ Is .f64 f (s3 (s2 (s1 (fracF q)))) ∧ wx = w.drewN n)
          case first =>
            cases hT : overQ b
            · have HT := Lib.hid hT
              unfold overQ at hT
              simp only [hT]
              go_wp2_with fail
              go_meet
              exact ⟨_, _, rfl, s3_no HT.out hf, rfl⟩
            · have HT := Lib.hid hT
              unfold overQ at hT
              simp only [hT]
              go_wp2_with (first | ((with_reducible refine wpList_fop ?_); refine ⟨_, _, _, ⟨rfl, rfl, rfl, rfl⟩, ?_⟩; intro t n3 ht))
              go_meet
              exact ⟨_, _, rfl, s3_yes HT.out hf ht, rfl⟩
          case rest =>
            clear hf
            obtain ⟨f3, n4, rfl, h3, rfl⟩ := hcut
            go_wp2_with (first | ((with_reducible refine wpList_fop ?_); refine ⟨_, _, _, ⟨rfl, rfl, rfl, rfl⟩, ?_⟩; intro u n5 hu))
            rename_i z n6 hz K0 a0
            go_loopw [7, 8] (fun ps ks wr => ∃ (j : Nat) (k : Int) (p n : Nat), RowKit.Hid (k = 8 - (j : Int)) ∧ j ≤ 8 ∧ 0 ≤ k ∧ k ≤ 8 ∧ ks = .int .i64 k ∧ ps = .float .f64 p ∧ Is .f64 p (pS u j) ∧ wr = w.drewN n) (fun _ k _ => (intOf k).toNat)
            case atStart => exact ⟨0, 8, _, _, Lib.hid (by omega), by omega, by omega, by omega, rfl, rfl, Is.refl (by decide), rfl⟩
            case round =>
              obtain ⟨j, k, p, n2, hk, hj, hk1, hk2, rfl, rfl, hp, rfl⟩ := hrel
              by_cases hge : 1 ≤ k
              · have hj2 : j < 8 := by have := hk.out; omega
                have hc : RowKit.Hid (2 * k * (2 * k + 1) = 2 * (8 - (j : Int)) * (2 * (8 - (j : Int)) + 1)) := Lib.hid (by rw [hk.out])
                have hcb := coef_bd k hge hk2
                go_wp2_with (first | ((with_reducible refine wpList_fop ?_); refine ⟨_, _, _, ⟨rfl, rfl, rfl, rfl⟩, ?_⟩; intro t n3 ht))
                rename_i t1 m1 e1 t2 m2 e2
                go_roundw
                case rel => exact ⟨j + 1, k - 1, _, _, Lib.hid (by have := hk.out; omega), by omega, by omega, by omega, rfl, rfl, pS_is hc hp e1 e2 ht, rfl⟩
                case measure => simp [intOf]; omega
              · obtain rfl : j = 8 := by have := hk.out; omega
                go_wp2_with (first | ((with_reducible refine wpList_fop ?_); refine ⟨_, _, _, ⟨rfl, rfl, rfl, rfl⟩, ?_⟩; intro t n3 ht))
                go_ret
                exact ⟨_, _, tail_low rfl hfw.out hsm.out hb1 HB.out h3 hz hu hp (by assumption), rfl, rfl⟩
        · have HB := Lib.hid hB
          unfold halfUp at hB
          go_upto_if 35 with (first | ((with_reducible refine wpList_fop ?_); refine ⟨_, _, _, ⟨rfl, rfl, rfl, rfl⟩, ?_⟩; intro f n3 ht; have hf := s2_yes HB.out hb1 ht; clear ht))
          go_cut [3] (fun v3 wx => ∃ (f : Nat) (n : Nat), v3 = .float .f64 f ∧ Is .f64 f (s3 (s2 (s1 (fracF q)))) ∧ wx = w.drewN n)
          case first =>
            cases hT : overQ f
            · have HT := Lib.hid hT
              unfold overQ at hT
              simp only [hT]
              go_wp2_with fail
              go_meet
              exact ⟨_, _, rfl, s3_no HT.out hf, rfl⟩
            · have HT := Lib.hid hT
              unfold overQ at hT
              simp only [hT]
              go_wp2_with (first | ((with_reducible refine wpList_fop ?_); refine ⟨_, _, _, ⟨rfl, rfl, rfl, rfl⟩, ?_⟩; intro t n3 ht))
              go_meet
              exact ⟨_, _, rfl, s3_yes HT.out hf ht, rfl⟩
          case rest =>
            clear hf
            obtain ⟨f3, n4, rfl, h3, rfl⟩ := hcut
            go_wp2_with (first | ((with_reducible refine wpList_fop ?_); refine ⟨_, _, _, ⟨rfl, rfl, rfl, rfl⟩, ?_⟩; intro u n5 hu))
            rename_i z n6 hz K0 a0
            go_loopw [7, 8] (fun ps ks wr => ∃ (j : Nat) (k : Int) (p n : Nat), RowKit.Hid (k = 8 - (j : Int)) ∧ j ≤ 8 ∧ 0 ≤ k ∧ k ≤ 8 ∧ ks = .int .i64 k ∧ ps = .float .f64 p ∧ Is .f64 p (pS u j) ∧ wr = w.drewN n) (fun _ k _ => (intOf k).toNat)
            case atStart => exact ⟨0, 8, _, _, Lib.hid (by omega), by omega, by omega, by omega, rfl, rfl, Is.refl (by decide), rfl⟩
            case round =>
              obtain ⟨j, k, p, n2, hk, hj, hk1, hk2, rfl, rfl, hp, rfl⟩ := hrel
              by_cases hge : 1 ≤ k
              · have hj2 : j < 8 := by have := hk.out; omega
                have hc : RowKit.Hid (2 * k * (2 * k + 1) = 2 * (8 - (j : Int)) * (2 * (8 - (j : Int)) + 1)) := Lib.hid (by rw [hk.out])
                have hcb := coef_bd k hge hk2
                go_wp2_with (first | ((with_reducible refine wpList_fop ?_); refine ⟨_, _, _, ⟨rfl, rfl, rfl, rfl⟩, ?_⟩; intro t n3 ht))
                rename_i t1 m1 e1 t2 m2 e2
                go_roundw
                case rel => exact ⟨j + 1, k - 1, _, _, Lib.hid (by have := hk.out; omega), by omega, by omega, by omega, rfl, rfl, pS_is hc hp e1 e2 ht, rfl⟩
                case measure => simp [intOf]; omega
              · obtain rfl : j = 8 := by have := hk.out; omega
                go_wp2_with (first | ((with_reducible refine wpList_fop ?_); refine ⟨_, _, _, ⟨rfl, rfl, rfl, rfl⟩, ?_⟩; intro t n3 ht))
                go_ret
                exact ⟨_, _, tail_up rfl hfw.out hsm.out hb1 HB.out h3 hz hu hp (by assumption), rfl, rfl⟩
theorem l01Sine_any (x : Nat) (w : World) : Calls Try.prog 33 #[.float .f32 x] w (FOut w .f32 (sineF x)) := by
  go_enter Try.func33, Try.ntmps33
  go_wp2_with (first | ((with_reducible refine wpList_widen ?_); refine ⟨_, ⟨rfl, rfl, by rw [Try.underlying22]; rfl, Try.underlying25⟩, ?_⟩; intro q n hq) | (go_at_call 53; refine (l01SineWide_any _ ((lt64 _).1 hq.lt) _).mono ?_; rintro e w' ⟨r, n, hr, rfl, rfl⟩) | (go_at_call 48; refine (l01Narrow_any _ (sine_ov' ((lt64 _).1 hq.lt) (by assumption)) _).mono ?_; rintro e w' ⟨s, m, hs, rfl, rfl⟩))
  go_ret
  exact ⟨_, _, sine_is hq hr hs, rfl, rfl⟩
theorem spec_SineTurns_any (x : Nat) (w : World) : Calls Try.prog 16 #[.float .f32 x] w (FOut w .f32 (sineF x)) := by
  go_enter Try.func16, Try.ntmps16
  go_wp2_with (go_at_call 33; refine (l01Sine_any _ _).mono ?_; rintro e w' ⟨s, m, hs, rfl, rfl⟩)
  go_ret
  exact ⟨_, _, hs, rfl, rfl⟩
end Go.Proofs.Ytepanenjhfmoiaa
