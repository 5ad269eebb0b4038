/- The logarithm: what it returns, whatever the tape answers. No conditions but that bits fit their kind. -/
import Derived.Test.YtepanenjhfmoiaaLogB
import Derived.Test.YtepanenjhfmoiaaSl
namespace Go.Proofs.Ytepanenjhfmoiaa
open Go.Fl Go.RowKit

@[go_sem] theorem run_f64from (n : Int) (w : World) : (callFunc 54 #[.int .u64 n]).run Try.prog w = .ok (.value (.float .f64 n.toNat)) w := by
  rw [run_callFunc_extern (e := Extern.MathFloatBits.float64frombits) Try.func54 (by kernel_rfl) (by kernel_rfl) (by kernel_rfl) (by kernel_rfl)]; rfl
theorem NaN_any (w : World) : Calls Try.prog 35 #[] w (FOut w .f64 (nanW .f64)) := by
  go_enter Try.func35, Try.ntmps35
  go_wp2
  go_ret
  exact ⟨_, 0, is_nan (by decide) (by decide +kernel) (isNan_nanW _), rfl, rfl⟩
theorem Inf_neg (w : World) : Calls Try.prog 50 #[.int .i64 (-1)] w (FOut w .f64 18442240474082181120) := by
  go_enter Try.func50, Try.ntmps50
  go_wp2
  go_ret
  exact ⟨_, 0, Is.refl (by decide), rfl, rfl⟩
theorem IsInf_pos (x : Nat) (b : Bool) (h : (FloatKind.f64.format.order x 9218868437227405311 == some .gt) = b) (w : World) : Calls Try.prog 68 #[.float .f64 x, .int .i64 1] w (BOut w b) := by
  have H := Lib.hid h
  clear h
  go_enter Try.func68, Try.ntmps68
  go_wp2
  go_ret
  exact bout (n := 0) H.out rfl
theorem out_is {w : World} {r v u n : Nat} (h : Is .f64 r v) (e : v = u) : FOut w .f64 u (.returned (.float .f64 r)) (w.drewN n) := by subst e; exact ⟨r, n, h, rfl, rfl⟩
theorem geq_of {o : Option Ordering} (h : o = some .gt ∨ o = some .eq) : (o == some .gt || o == some .eq) = true := by rcases h with rfl | rfl <;> rfl
theorem geq_not {o : Option Ordering} (h : o = some .lt) : (o == some .gt || o == some .eq) = false := by subst h; rfl
theorem nlt_of {o : Option Ordering} (h : o = some .gt ∨ o = some .eq) : (o == some .lt) = false := by rcases h with rfl | rfl <;> rfl
theorem sL_is {z a b s : Nat} (ha : Is .f64 a (fop .sub .f64 z 4607182418800017408)) (hb : Is .f64 b (fop .add .f64 z 4607182418800017408)) (hs : Is .f64 s (fop .quo .f64 a b)) : Is .f64 s (sL z) := hs.op' ha hb
theorem qL_is {u j a b q r : Nat} {k : Int} (hk : Hid (k = 25 - 2 * (j : Int))) (ha : Is .f64 a (fop .quo .f64 4607182418800017408 (floatOfInt .f64 k))) (hq : Is .f64 q (qL u j)) (hb : Is .f64 b (fop .mul .f64 u q)) (hr : Is .f64 r (fop .add .f64 a b)) : Is .f64 r (qL u (j + 1)) := by
  rw [hk.out] at ha
  exact hr.op ha.cn (hb.op rfl hq.cn).cn
theorem qL_congr {u u' : Nat} (h : Fl.cn .f64 u = Fl.cn .f64 u') : ∀ j, Fl.cn .f64 (qL u j) = Fl.cn .f64 (qL u' j)
  | 0 => rfl
  | j + 1 => by unfold qL; rw [fop_congr rfl (show Fl.cn .f64 (fop .mul .f64 u (qL u j)) = Fl.cn .f64 (fop .mul .f64 u' (qL u' j)) by rw [fop_congr h (qL_congr h j)])]
theorem logFin_is {z s u q a b c r : Nat} {d : Int} (hs : Is .f64 s (sL z)) (hu : Is .f64 u (fop .mul .f64 s s)) (hq : Is .f64 q (qL u 13)) (ha : Is .f64 a (fop .mul .f64 s q)) (hb : Is .f64 b (fop .mul .f64 4611686018427387904 a)) (hc : Is .f64 c (fop .mul .f64 (floatOfInt .f64 d) 4604418534313441775)) (hr : Is .f64 r (fop .add .f64 b c)) : Is .f64 r (logFin z (floatOfInt .f64 d)) := by
  have h1 := hu.op hs.cn hs.cn
  have h2 := hq.trans (qL_congr h1.cn 13)
  exact hr.op (hb.op rfl (ha.op hs.cn h2.cn).cn).cn hc.cn
theorem dbl {x r : Nat} (h : Is .f64 r (fop .mul .f64 x 4611686018427387904)) (h1 : 4503599627370496 ≤ x) (h2 : x < 9000000000000000000) : r = x + 4503599627370496 := by
  rw [double_eq h1 (by omega)] at h; exact is_exact h (by omega)
theorem hlv {z y r : Nat} (h : Is .f64 r (fop .quo .f64 z 4611686018427387904)) (hz : Hid (z = y + 4503599627370496)) (h1 : 9007199254740992 ≤ z) (h2 : z < 9000000000000000000) : r = y := by
  have e := hz.out
  rw [half_eq (X := z) (by omega) (by omega), e, Nat.add_sub_cancel] at h; exact is_exact h (by omega)
theorem dec {d : Int} {r : Nat} (h : Is .f64 r (fop .sub .f64 (floatOfInt .f64 d) 4607182418800017408)) (h1 : -300 ≤ d) (h2 : d ≤ 300) : r = floatOfInt .f64 (d - 1) := by
  rw [fe_sub h1 h2] at h; exact fe_is h (by omega)
theorem inc {d : Int} {r : Nat} (h : Is .f64 r (fop .add .f64 (floatOfInt .f64 d) 4607182418800017408)) (h1 : -300 ≤ d) (h2 : d ≤ 300) : r = floatOfInt .f64 (d + 1) := by
  rw [fe_add h1 h2] at h; exact fe_is h (by omega)
theorem logOf_nan (x : Nat) (h : isNan .f64 x = true) (w : World) : Calls Try.prog 29 #[.float .f64 x] w (FOut w .f64 (logW x)) := by
  have H := Lib.hid (logW_nan h).symm
  have ho := order_self_nan h
  clear h
  go_enter Try.func29, Try.ntmps29
  go_wp2_with (go_at_call 35; refine (NaN_any _).mono ?_; rintro e w' ⟨r, n, hr, rfl, rfl⟩)
  go_ret
  exact out_is hr H.out
theorem logOf_neg (x : Nat) (h : isNan .f64 x = false) (h2 : 9223372036854775808 < x) (hx : x < 18446744073709551616) (w : World) : Calls Try.prog 29 #[.float .f64 x] w (FOut w .f64 (logW x)) := by
  have H := Lib.hid (logW_neg h h2).symm
  have ho := order_self h
  have hl : FloatKind.f64.format.order x 0 = some .lt := ord_lt hx (by omega) (not_nan64 h) (by omega) (by unfold key64; rw [if_neg (by omega), if_pos (by omega)]; omega)
  clear h h2 hx
  go_enter Try.func29, Try.ntmps29
  go_wp2_with (go_at_call 35; refine (NaN_any _).mono ?_; rintro e w' ⟨r, n, hr, rfl, rfl⟩)
  go_ret
  exact out_is hr H.out
theorem logOf_zero (x : Nat) (h : x = 0 ∨ x = 9223372036854775808) (w : World) : Calls Try.prog 29 #[.float .f64 x] w (FOut w .f64 (logW x)) := by
  have H := Lib.hid (logW_zero h).symm
  have hn : isNan .f64 x = false := by rw [isNan64]; simp only [decide_eq_false_iff_not]; omega
  have ho := order_self hn
  have hl : FloatKind.f64.format.order x 0 = some .eq := ord_eq (by omega) (by omega) (not_nan64 hn) (by omega) (by unfold key64; rw [if_pos (show (0 : Nat) < 9223372036854775808 by omega)]; split <;> omega)
  clear h hn
  go_enter Try.func29, Try.ntmps29
  go_wp2_with (go_at_call 50; refine (Inf_neg _).mono ?_; rintro e w' ⟨r, n, hr, rfl, rfl⟩)
  go_ret
  exact out_is hr H.out
theorem logOf_inf (w : World) : Calls Try.prog 29 #[.float .f64 9218868437227405312] w (FOut w .f64 (logW 9218868437227405312)) := by
  have H := Lib.hid logW_inf.symm
  have ho : FloatKind.f64.format.order 9218868437227405312 9218868437227405312 = some .eq := by decide +kernel
  have hl : FloatKind.f64.format.order 9218868437227405312 0 = some .gt := by decide +kernel
  have hg : FloatKind.f64.format.order 9218868437227405312 9218868437227405311 = some .gt := by decide +kernel
  have hb : (FloatKind.f64.format.order 9218868437227405312 9218868437227405311 == some .gt) = true := by decide +kernel
  go_enter Try.func29, Try.ntmps29
  go_wp2_with (fail)
  go_ret
  first | exact out_is (n := 0) (Is.refl (by decide)) H.out | exact out_is (Is.refl (by decide)) H.out
set_option maxHeartbeats 1000000 in
theorem logOf_fin (x : Nat) (h1 : 3936146074321813504 ≤ x) (h2 : x < 5183643171103440896) (w : World) : Calls Try.prog 29 #[.float .f64 x] w (FOut w .f64 (logW x)) := by
  have ho : FloatKind.f64.format.order x x = some .eq := pos_eq (by omega)
  have hl : FloatKind.f64.format.order x 0 = some .gt := pos_gt (by omega) (by omega)
  have hg : FloatKind.f64.format.order x 9218868437227405311 = some .lt := pos_lt (by omega) (by omega)
  have hb : (FloatKind.f64.format.order x 9218868437227405311 == some .gt) = false := by rw [hg]; rfl
  go_enter Try.func29, Try.ntmps29
  go_wp2_with (fail)
  clear ho hl hg hb
  go_loopw [0, 3] (fun xs es wr => ∃ (z : Nat) (d : Int) (n : Nat), xs = .float .f64 z ∧ es = .float .f64 (floatOfInt .f64 d) ∧ wr = w.drewN n ∧ (z : Int) + 4503599627370496 * d = x ∧ 3936146074321813504 ≤ z ∧ z < 5183643171103440896 ∧ (z = x ∨ z < 4609434218613702656)) (fun xs _ _ => match xs with | .float _ z => 4604930618986332160 - z | _ => 0)
  case atStart => exact ⟨x, 0, 0, rfl, by rw [fe_zero], rfl, by omega, h1, h2, .inl rfl⟩
  case round =>
    obtain ⟨z, d, n, rfl, rfl, rfl, hz, hz1, hz2, hz3⟩ := hrel
    by_cases hlt : z < 4604930618986332160
    · have ho1 := pos_lt (x := z) (y := 4604930618986332160) (by omega) hlt
      go_wp2_with (first | ((with_reducible refine wpList_fop ?_); refine ⟨_, _, _, ⟨rfl, rfl, rfl, rfl⟩, ?_⟩; intro r n1 hr; obtain rfl := dbl hr (by omega) (by omega); clear hr) | ((with_reducible refine wpList_fop ?_); refine ⟨_, _, _, ⟨rfl, rfl, rfl, rfl⟩, ?_⟩; intro r n2 hr; obtain rfl := dec hr (by omega) (by omega); clear hr))
      go_roundw
      case rel => exact ⟨z + 4503599627370496, d - 1, _, rfl, rfl, rfl, by omega, by omega, by omega, by omega⟩
      case measure => simp; omega
    · have ho1 : FloatKind.f64.format.order z 4604930618986332160 = some .gt ∨ FloatKind.f64.format.order z 4604930618986332160 = some .eq := by
        by_cases he : z = 4604930618986332160
        · right; rw [he]; exact pos_eq (by omega)
        · left; exact pos_gt (by omega) (by omega)
      have ho2 : (FloatKind.f64.format.order z 4604930618986332160 == some .lt) = false := nlt_of ho1
      clear ho1
      go_wp2_with fail
      go_loopw [0, 3] (fun xs es wr => ∃ (z : Nat) (d : Int) (n : Nat), xs = .float .f64 z ∧ es = .float .f64 (floatOfInt .f64 d) ∧ wr = w.drewN n ∧ (z : Int) + 4503599627370496 * d = x ∧ 3936146074321813504 ≤ z ∧ z < 5183643171103440896 ∧ 4604930618986332160 ≤ z) (fun xs _ _ => match xs with | .float _ z => z | _ => 0)
      case atStart => exact ⟨z, d, _, rfl, rfl, rfl, hz, hz1, hz2, by omega⟩
      case round =>
        obtain ⟨z, d, n, rfl, rfl, rfl, hz, hz1, hz2, hz3⟩ := hrel
        by_cases hlt : z < 4609434218613702656
        · have ho1 := pos_lt (x := z) (y := 4609434218613702656) (by omega) hlt
          have HL := Lib.hid (logW_fin (x := x) (z := z) (d := d) h1 h2 (by omega) (by omega) hz).symm
          clear hz hz1 hz2 hz3 h1 h2 hlt
          go_wp2_with (first | ((with_reducible refine wpList_fop ?_); refine ⟨_, _, _, ⟨rfl, rfl, rfl, rfl⟩, ?_⟩; intro r n1 hr))
          rename_i ra na ha rb nb hb rs ns hs K0 a0
          go_loopw [6, 7] (fun qs ks wr => ∃ (j : Nat) (k : Int) (q n : Nat), RowKit.Hid (k = 25 - 2 * (j : Int)) ∧ j ≤ 13 ∧ -1 ≤ k ∧ k ≤ 25 ∧ ks = .int .i64 k ∧ qs = .float .f64 q ∧ Is .f64 q (qL r j) ∧ wr = w.drewN n) (fun _ k _ => (intOf k + 1).toNat)
          case atStart => exact ⟨0, 25, 0, _, Lib.hid (by omega), by omega, by omega, by omega, rfl, rfl, Is.refl (by decide), rfl⟩
          case round =>
            obtain ⟨j, k, q, n2, hk, hj, hk1, hk2, rfl, rfl, hq, rfl⟩ := hrel
            by_cases hge : 1 ≤ k
            · have hj2 : j < 13 := by have := hk.out; omega
              go_wp2_with (first | ((with_reducible refine wpList_fop ?_); refine ⟨_, _, _, ⟨rfl, rfl, rfl, rfl⟩, ?_⟩; intro t n3 ht))
              rename_i t1 m1 e1 t2 m2 e2
              go_roundw
              case rel => exact ⟨j + 1, k - 2, _, _, Lib.hid (by have := hk.out; omega), by omega, by omega, by omega, rfl, rfl, qL_is hk e1 hq e2 ht, rfl⟩
              case measure => simp [intOf]; omega
            · obtain rfl : j = 13 := by have := hk.out; omega
              go_wp2_with (first | ((with_reducible refine wpList_fop ?_); refine ⟨_, _, _, ⟨rfl, rfl, rfl, rfl⟩, ?_⟩; intro t n3 ht))
              rename_i t1 m1 e1 t2 m2 e2 t3 m3 e3
              go_ret
              exact out_is (logFin_is (sL_is ha hb hs) hr hq e1 e2 e3 ht) HL.out
        · obtain ⟨y, hy⟩ : ∃ y, Hid (z = y + 4503599627370496) := ⟨z - 4503599627370496, Lib.hid (by omega)⟩
          have ho1 : FloatKind.f64.format.order z 4609434218613702656 = some .gt ∨ FloatKind.f64.format.order z 4609434218613702656 = some .eq := by
            by_cases he : z = 4609434218613702656
            · right; rw [he]; exact pos_eq (by omega)
            · left; exact pos_gt (by omega) (by omega)
          have ho2 : (FloatKind.f64.format.order z 4609434218613702656 == some .gt || FloatKind.f64.format.order z 4609434218613702656 == some .eq) = true := geq_of ho1
          clear ho1
          go_wp2_with (first | ((with_reducible refine wpList_fop ?_); refine ⟨_, _, _, ⟨rfl, rfl, rfl, rfl⟩, ?_⟩; intro r n1 hr; obtain rfl := hlv hr hy (by omega) (by omega); clear hr) | ((with_reducible refine wpList_fop ?_); refine ⟨_, _, _, ⟨rfl, rfl, rfl, rfl⟩, ?_⟩; intro r n2 hr; obtain rfl := inc hr (by omega) (by omega); clear hr))
          go_roundw
          all_goals (have hy := hy.out)
          case rel => exact ⟨_, d + 1, _, rfl, rfl, rfl, by omega, by omega, by omega, by omega⟩
          case measure => simp; omega
theorem l01LogWide_nan (x : Nat) (h : isNan .f64 x = true) (w : World) : Calls Try.prog 49 #[.float .f64 x] w (FOut w .f64 (logW x)) := by
  have H := Lib.hid (logW_nan h).symm
  have ho := order_self_nan h
  clear h
  go_enter Try.func49, Try.ntmps49
  go_wp2_with (go_at_call 35; refine (NaN_any _).mono ?_; rintro e w' ⟨r, n, hr, rfl, rfl⟩)
  go_ret
  exact out_is hr H.out
theorem l01LogWide_neg (x : Nat) (h : isNan .f64 x = false) (h2 : 9223372036854775808 < x) (hx : x < 18446744073709551616) (w : World) : Calls Try.prog 49 #[.float .f64 x] w (FOut w .f64 (logW x)) := by
  have H := Lib.hid (logW_neg h h2).symm
  have ho := order_self h
  have hl : FloatKind.f64.format.order x 0 = some .lt := ord_lt hx (by omega) (not_nan64 h) (by omega) (by unfold key64; rw [if_neg (by omega), if_pos (by omega)]; omega)
  clear h h2 hx
  go_enter Try.func49, Try.ntmps49
  go_wp2_with (go_at_call 35; refine (NaN_any _).mono ?_; rintro e w' ⟨r, n, hr, rfl, rfl⟩)
  go_ret
  exact out_is hr H.out
theorem l01LogWide_zero (x : Nat) (h : x = 0 ∨ x = 9223372036854775808) (w : World) : Calls Try.prog 49 #[.float .f64 x] w (FOut w .f64 (logW x)) := by
  have H := Lib.hid (logW_zero h).symm
  have hn : isNan .f64 x = false := by rw [isNan64]; simp only [decide_eq_false_iff_not]; omega
  have ho := order_self hn
  have hl : FloatKind.f64.format.order x 0 = some .eq := ord_eq (by omega) (by omega) (not_nan64 hn) (by omega) (by unfold key64; rw [if_pos (show (0 : Nat) < 9223372036854775808 by omega)]; split <;> omega)
  clear h hn
  go_enter Try.func49, Try.ntmps49
  go_wp2_with (go_at_call 50; refine (Inf_neg _).mono ?_; rintro e w' ⟨r, n, hr, rfl, rfl⟩)
  go_ret
  exact out_is hr H.out
theorem l01LogWide_inf (w : World) : Calls Try.prog 49 #[.float .f64 9218868437227405312] w (FOut w .f64 (logW 9218868437227405312)) := by
  have H := Lib.hid logW_inf.symm
  have ho : FloatKind.f64.format.order 9218868437227405312 9218868437227405312 = some .eq := by decide +kernel
  have hl : FloatKind.f64.format.order 9218868437227405312 0 = some .gt := by decide +kernel
  have hg : FloatKind.f64.format.order 9218868437227405312 9218868437227405311 = some .gt := by decide +kernel
  have hb : (FloatKind.f64.format.order 9218868437227405312 9218868437227405311 == some .gt) = true := by decide +kernel
  go_enter Try.func49, Try.ntmps49
  go_wp2_with (go_at_call 68; refine (IsInf_pos _ true (by assumption) _).mono ?_; rintro e w' ⟨rfl, n, rfl⟩)
  go_ret
  first | exact out_is (n := 0) (Is.refl (by decide)) H.out | exact out_is (Is.refl (by decide)) H.out
set_option maxHeartbeats 1000000 in
theorem l01LogWide_fin (x : Nat) (h1 : 3936146074321813504 ≤ x) (h2 : x < 5183643171103440896) (w : World) : Calls Try.prog 49 #[.float .f64 x] w (FOut w .f64 (logW x)) := by
  have ho : FloatKind.f64.format.order x x = some .eq := pos_eq (by omega)
  have hl : FloatKind.f64.format.order x 0 = some .gt := pos_gt (by omega) (by omega)
  have hg : FloatKind.f64.format.order x 9218868437227405311 = some .lt := pos_lt (by omega) (by omega)
  have hb : (FloatKind.f64.format.order x 9218868437227405311 == some .gt) = false := by rw [hg]; rfl
  go_enter Try.func49, Try.ntmps49
  go_wp2_with (go_at_call 68; refine (IsInf_pos _ false (by assumption) _).mono ?_; rintro e w' ⟨rfl, n, rfl⟩)
  clear ho hl hg hb
  go_loopw [0, 3] (fun xs es wr => ∃ (z : Nat) (d : Int) (n : Nat), xs = .float .f64 z ∧ es = .int .i64 d ∧ wr = w.drewN n ∧ (z : Int) + 4503599627370496 * d = x ∧ 3936146074321813504 ≤ z ∧ z < 5183643171103440896 ∧ (z = x ∨ 4604930618986332160 ≤ z)) (fun xs _ _ => match xs with | .float _ z => z | _ => 0)
  case atStart => exact ⟨x, 0, _, rfl, rfl, rfl, by omega, h1, h2, .inl rfl⟩
  case round =>
    obtain ⟨z, d, n, rfl, rfl, rfl, hz, hz1, hz2, hz3⟩ := hrel
    by_cases hlt : z < 4609434218613702656
    · have ho1 := pos_lt (x := z) (y := 4609434218613702656) (by omega) hlt
      go_wp2_with fail
      go_loopw [0, 3] (fun xs es wr => ∃ (z : Nat) (d : Int) (n : Nat), xs = .float .f64 z ∧ es = .int .i64 d ∧ wr = w.drewN n ∧ (z : Int) + 4503599627370496 * d = x ∧ 3936146074321813504 ≤ z ∧ z < 5183643171103440896 ∧ z < 4609434218613702656) (fun xs _ _ => match xs with | .float _ z => 4604930618986332160 - z | _ => 0)
      case atStart => exact ⟨z, d, _, rfl, rfl, rfl, hz, hz1, hz2, by omega⟩
      case round =>
        obtain ⟨z, d, n, rfl, rfl, rfl, hz, hz1, hz2, hz3⟩ := hrel
        by_cases hlt : z < 4604930618986332160
        · have ho1 := pos_lt (x := z) (y := 4604930618986332160) (by omega) hlt
          go_wp2_with (first | ((with_reducible refine wpList_fop ?_); refine ⟨_, _, _, ⟨rfl, rfl, rfl, rfl⟩, ?_⟩; intro r n1 hr; obtain rfl := dbl hr (by omega) (by omega); clear hr))
          go_roundw
          case rel => exact ⟨z + 4503599627370496, d - 1, _, rfl, rfl, rfl, by omega, by omega, by omega, by omega⟩
          case measure => simp; omega
        · have ho1 : FloatKind.f64.format.order z 4604930618986332160 = some .gt ∨ FloatKind.f64.format.order z 4604930618986332160 = some .eq := by
            by_cases he : z = 4604930618986332160
            · right; rw [he]; exact pos_eq (by omega)
            · left; exact pos_gt (by omega) (by omega)
          have ho2 : (FloatKind.f64.format.order z 4604930618986332160 == some .lt) = false := nlt_of ho1
          clear ho1
          have HL := Lib.hid (logW_fin (x := x) (z := z) (d := d) h1 h2 (by omega) (by omega) hz).symm
          clear hz hz1 hz2 hz3 h1 h2 hlt
          go_wp2_with (first | ((with_reducible refine wpList_fop ?_); refine ⟨_, _, _, ⟨rfl, rfl, rfl, rfl⟩, ?_⟩; intro r n1 hr))
          rename_i ra na ha rb nb hb rs ns hs K0 a0
          go_loopw [6, 7] (fun qs ks wr => ∃ (j : Nat) (k : Int) (q n : Nat), RowKit.Hid (k = 25 - 2 * (j : Int)) ∧ j ≤ 13 ∧ -1 ≤ k ∧ k ≤ 25 ∧ ks = .int .i64 k ∧ qs = .float .f64 q ∧ Is .f64 q (qL r j) ∧ wr = w.drewN n) (fun _ k _ => (intOf k + 1).toNat)
          case atStart => exact ⟨0, 25, 0, _, Lib.hid (by omega), by omega, by omega, by omega, rfl, rfl, Is.refl (by decide), rfl⟩
          case round =>
            obtain ⟨j, k, q, n2, hk, hj, hk1, hk2, rfl, rfl, hq, rfl⟩ := hrel
            by_cases hge : 1 ≤ k
            · have hj2 : j < 13 := by have := hk.out; omega
              go_wp2_with (first | ((with_reducible refine wpList_fop ?_); refine ⟨_, _, _, ⟨rfl, rfl, rfl, rfl⟩, ?_⟩; intro t n3 ht))
              rename_i t1 m1 e1 t2 m2 e2
              go_roundw
              case rel => exact ⟨j + 1, k - 2, _, _, Lib.hid (by have := hk.out; omega), by omega, by omega, by omega, rfl, rfl, qL_is hk e1 hq e2 ht, rfl⟩
              case measure => simp [intOf]; omega
            · obtain rfl : j = 13 := by have := hk.out; omega
              go_wp2_with (first | ((with_reducible refine wpList_fop ?_); refine ⟨_, _, _, ⟨rfl, rfl, rfl, rfl⟩, ?_⟩; intro t n3 ht))
              rename_i t1 m1 e1 t2 m2 e2 t3 m3 e3
              go_ret
              exact out_is (logFin_is (sL_is ha hb hs) hr hq e1 e2 e3 ht) HL.out
    · obtain ⟨y, hy⟩ : ∃ y, Hid (z = y + 4503599627370496) := ⟨z - 4503599627370496, Lib.hid (by omega)⟩
      have ho1 : FloatKind.f64.format.order z 4609434218613702656 = some .gt ∨ FloatKind.f64.format.order z 4609434218613702656 = some .eq := by
        by_cases he : z = 4609434218613702656
        · right; rw [he]; exact pos_eq (by omega)
        · left; exact pos_gt (by omega) (by omega)
      have ho2 : (FloatKind.f64.format.order z 4609434218613702656 == some .gt || FloatKind.f64.format.order z 4609434218613702656 == some .eq) = true := geq_of ho1
      clear ho1
      go_wp2_with (first | ((with_reducible refine wpList_fop ?_); refine ⟨_, _, _, ⟨rfl, rfl, rfl, rfl⟩, ?_⟩; intro r n1 hr; obtain rfl := hlv hr hy (by omega) (by omega); clear hr))
      go_roundw
      all_goals (have hy := hy.out)
      case rel => exact ⟨_, d + 1, _, rfl, rfl, rfl, by omega, by omega, by omega, by omega⟩
      case measure => simp; omega
theorem logW_congr {x y : Nat} (h : Fl.cn .f64 x = Fl.cn .f64 y) : logW x = logW y := by
  cases hn : isNan .f64 x
  · rw [eq_of_cn h hn]
  · rw [logW_nan hn, logW_nan (by rw [← isNan_of_cn h, hn])]
def logF (x : Nat) : Nat := fnarrow (logW (fwiden x))
theorem log_ov' {x q r : Nat} (hq : Is .f64 q (fwiden x)) (hr : Is .f64 r (logW q)) : overflows r = false := by
  rw [overflows_congr hr.cn, logW_congr hq.cn, log_ov]
theorem log_is {x q r s : Nat} (hq : Is .f64 q (fwiden x)) (hr : Is .f64 r (logW q)) (hs : Is .f32 s (fnarrow r)) : Is .f32 s (logF x) := by
  unfold logF
  rw [← logW_congr hq.cn, ← fnarrow_congr hr.cn]; exact hs
theorem logOf_any (y q : Nat) (hq : Is .f64 q (fwiden y)) (w : World) : Calls Try.prog 29 #[.float .f64 q] w (FOut w .f64 (logW q)) := by
  cases hn : isNan .f64 q
  · have e := eq_of_cn hq.cn hn
    have hlt := (lt64 _).1 hq.lt
    rcases wide_cases y with h | h | h | h | ⟨h1, h2⟩ <;> rw [← e] at *
    · rw [hn] at h; cases h
    · exact logOf_neg q hn h hlt w
    · exact logOf_zero q h w
    · subst h; exact logOf_inf w
    · exact logOf_fin q h1 h2 w
  · exact logOf_nan q hn w
theorem l01LogWide_any (y q : Nat) (hq : Is .f64 q (fwiden y)) (w : World) : Calls Try.prog 49 #[.float .f64 q] w (FOut w .f64 (logW q)) := by
  cases hn : isNan .f64 q
  · have e := eq_of_cn hq.cn hn
    have hlt := (lt64 _).1 hq.lt
    rcases wide_cases y with h | h | h | h | ⟨h1, h2⟩ <;> rw [← e] at *
    · rw [hn] at h; cases h
    · exact l01LogWide_neg q hn h hlt w
    · exact l01LogWide_zero q h w
    · subst h; exact l01LogWide_inf w
    · exact l01LogWide_fin q h1 h2 w
  · exact l01LogWide_nan q hn w
theorem LogNumber_any (x : Nat) (w : World) : Calls Try.prog 11 #[.float .f32 x] w (FOut w .f32 (logF x)) := by
  go_enter Try.func11, Try.ntmps11
  go_wp2_with (first | ((with_reducible refine wpList_widen ?_); refine ⟨_, ⟨rfl, rfl, by rw [Try.underlying22]; rfl, Try.underlying25⟩, ?_⟩; intro q n hq) | (go_at_call 29; refine (logOf_any _ _ hq _).mono ?_; rintro e w' ⟨r, n, hr, rfl, rfl⟩) | ((with_reducible refine wpList_narrow ?_); refine ⟨_, ⟨rfl, rfl, by rw [Try.underlying25]; rfl, Try.underlying22⟩, log_ov' (by assumption) (by assumption), ?_⟩; intro s m hs))
  go_ret
  exact ⟨_, _, log_is hq hr hs, rfl, rfl⟩
theorem l01Log_any (x : Nat) (w : World) : Calls Try.prog 28 #[.float .f32 x] w (FOut w .f32 (logF x)) := by
  go_enter Try.func28, Try.ntmps28
  go_wp2_with (first | ((with_reducible refine wpList_widen ?_); refine ⟨_, ⟨rfl, rfl, by rw [Try.underlying22]; rfl, Try.underlying25⟩, ?_⟩; intro q n hq) | (go_at_call 49; refine (l01LogWide_any _ _ hq _).mono ?_; rintro e w' ⟨r, n, hr, rfl, rfl⟩) | (go_at_call 48; refine (l01Narrow_any _ (log_ov' (by assumption) (by assumption)) _).mono ?_; rintro e w' ⟨s, m, hs, rfl, rfl⟩))
  go_ret
  exact ⟨_, _, log_is hq hr hs, rfl, rfl⟩
theorem spec_LogNumber_any (x : Nat) (w : World) : Calls Try.prog 10 #[.float .f32 x] w (FOut w .f32 (logF x)) := by
  go_enter Try.func10, Try.ntmps10
  go_wp2_with (go_at_call 28; refine (l01Log_any _ _).mono ?_; rintro e w' ⟨s, m, hs, rfl, rfl⟩)
  go_ret
  exact ⟨_, _, hs, rfl, rfl⟩
end Go.Proofs.Ytepanenjhfmoiaa
