/- The angle: what it returns, whatever the tape answers. No conditions but that bits fit their kind. -/
import Derived.Test.YtepanenjhfmoiaaAngleB
import Derived.Test.YtepanenjhfmoiaaSine
import Derived.Test.YtepanenjhfmoiaaUnit
namespace Go.Proofs.Ytepanenjhfmoiaa
open Go.Fl Go.RowKit

theorem stepA_congr {t u : Nat} (h : Fl.cn .f64 t = Fl.cn .f64 u) : Fl.cn .f64 (stepA t) = Fl.cn .f64 (stepA u) := by
  unfold stepA
  have h1 : fop .mul .f64 t t = fop .mul .f64 u u := fop_congr h h
  rw [h1, fop_congr h rfl]
theorem stepA_is {T t m a s b q j : Nat} (ht : Is .f64 t (stepsA T j)) (hm : Is .f64 m (fop .mul .f64 t t)) (ha : Is .f64 a (fop .add .f64 4607182418800017408 m)) (hs : Is .f64 s (fsqrt a)) (hb : Is .f64 b (fop .add .f64 4607182418800017408 s)) (hq : Is .f64 q (fop .quo .f64 t b)) : Is .f64 q (stepsA T (j + 1)) := by
  have h1 : Is .f64 q (stepA t) := by
    unfold stepA
    have hs' := hs.trans (by rw [fsqrt_congr (ha.op rfl hm.cn).cn])
    exact hq.op rfl (hb.op rfl hs'.cn).cn
  exact h1.trans (stepA_congr ht.cn)
theorem pA_congr {u u' : Nat} (h : Fl.cn .f64 u = Fl.cn .f64 u') : ∀ j, Fl.cn .f64 (pA u j) = Fl.cn .f64 (pA u' j)
  | 0 => rfl
  | j + 1 => by unfold pA; rw [fop_congr rfl (show Fl.cn .f64 (fop .mul .f64 u (pA u j)) = Fl.cn .f64 (fop .mul .f64 u' (pA u' j)) by rw [fop_congr h (pA_congr h j)])]
theorem pA_is {u j a b q r : Nat} {k : Int} (hk : RowKit.Hid (k = 15 - 2 * (j : Int))) (ha : Is .f64 a (fop .quo .f64 4607182418800017408 (floatOfInt .f64 k))) (hq : Is .f64 q (pA u j)) (hb : Is .f64 b (fop .mul .f64 u q)) (hr : Is .f64 r (fop .sub .f64 a b)) : Is .f64 r (pA u (j + 1)) := by
  rw [hk.out] at ha
  exact hr.op ha.cn (hb.op rfl hq.cn).cn
theorem ang0_is {T t u p a b r : Nat} (ht : Is .f64 t T) (hu : Is .f64 u (fop .mul .f64 t t)) (hp : Is .f64 p (pA u 8)) (ha : Is .f64 a (fop .mul .f64 t p)) (hb : Is .f64 b (fop .mul .f64 4620693217682128896 a)) (hr : Is .f64 r (fop .quo .f64 b 4618760256179416344)) : Is .f64 r (ang0 T) := by
  unfold ang0
  have h1 := hu.op ht.cn ht.cn
  have h2 := hp.trans (pA_congr h1.cn 8)
  exact hr.op (hb.op rfl (ha.op ht.cn h2.cn).cn).cn rfl
theorem t0_yes {a b r : Nat} (h : overB a b = true) (hr : Is .f64 r (fop .quo .f64 b a)) : Is .f64 r (t0F a b) := by unfold t0F; rw [if_pos h]; exact hr
theorem t0_no {a b r : Nat} (h : overB a b = false) (hr : Is .f64 r (fop .quo .f64 a b)) : Is .f64 r (t0F a b) := by unfold t0F; rw [h]; exact hr
theorem ang1_yes {a b g v r : Nat} (h : overB a b = true) (hg : Is .f64 g v) (hr : Is .f64 r (fop .sub .f64 4598175219545276416 g)) : Is .f64 r (ang1 a b v) := by unfold ang1; rw [if_pos h]; exact hr.op rfl hg.cn
theorem ang1_no {a b g v : Nat} (h : overB a b = false) (hg : Is .f64 g v) : Is .f64 g (ang1 a b v) := by unfold ang1; rw [h]; exact hg
theorem ang2_yes {x g v r : Nat} (h : ltz x = true) (hg : Is .f64 g v) (hr : Is .f64 r (fop .sub .f64 4602678819172646912 g)) : Is .f64 r (ang2 x v) := by unfold ang2; rw [if_pos h]; exact hr.op rfl hg.cn
theorem ang2_no {x g v : Nat} (h : ltz x = false) (hg : Is .f64 g v) : Is .f64 g (ang2 x v) := by unfold ang2; rw [h]; exact hg
theorem ang3_yes {y g v : Nat} (h : ltz y = true) (hg : Is .f64 g v) : Is .f64 (ng64 g) (ang3 y v) := by unfold ang3; rw [if_pos h]; exact ng64_is hg
theorem ang3_no {y g v : Nat} (h : ltz y = false) (hg : Is .f64 g v) : Is .f64 g (ang3 y v) := by unfold ang3; rw [h]; exact hg
theorem angleW_nan {y x : Nat} (h : (finW y && finW x) = false) : angleW y x = nanW .f64 := by unfold angleW; rw [h]; rfl
theorem angleW_zero {y x : Nat} (h : (finW y && finW x) = true) (hz : (eqz x && eqz y) = true) : angleW y x = 0 := by unfold angleW; rw [h, if_neg (by simp), if_pos hz]
theorem angleW_is {y x r : Nat} (h : (finW y && finW x) = true) (hz : (eqz x && eqz y) = false) (hr : Is .f64 r (ang3 y (ang2 x (ang1 (absB y) (absB x) (ang0 (stepsA (t0F (absB y) (absB x)) 3)))))) : Is .f64 r (angleW y x) := by
  unfold angleW; rw [h, if_neg (by simp), hz]; exact hr
theorem fb_is {w w' : World} {r v : Nat} (h : Is .f64 r v) (hb : Below w.heap.size w w') : FB w .f64 v (.returned (.float .f64 r)) w' := ⟨r, h, rfl, hb⟩
theorem Abs_keep (x : Nat) (hx : x < 18446744073709551616) (w : World) : Calls Try.prog 36 #[.float .f64 x] w fun e w' => e = .returned (.float .f64 (absB x)) ∧ w = w' := (Abs_any x hx w).mono fun _ _ h => ⟨h.1, h.2.symm⟩
theorem sub_order {y : Nat} (h : finW y = false) (W : World) : (FloatKind.f64.format.order (fv W .sub .f64 y y) 0 != some .eq) = true := by
  have e : finW y = (FloatKind.f64.format.order (fv W .sub .f64 y y) 0 == some .eq) := by unfold finW; rw [order_congr (fv_is W .sub .f64 y y).cn rfl]
  unfold bne; rw [← e, h]; rfl
set_option maxRecDepth 100000 in
set_option maxHeartbeats 4000000 in
theorem l01AngleWide_any (Y X : Nat) (hY : Y < 18446744073709551616) (hX : X < 18446744073709551616) (w : World) : Calls Try.prog 64 #[.float .f64 Y, .float .f64 X] w (FB w .f64 (angleW Y X)) := by
  have h00 : (FloatKind.f64.format.order 0 0 != some .eq) = false := by decide +kernel
  cases hFy : finW Y
  · have HS := Lib.hid (angleW_nan (y := Y) (x := X) (by rw [hFy]; rfl))
    have hr1 := fun W => run_fopv (P := Try.prog) (op := .sub) rfl 25 .f64 Y Y W
    have ho := sub_order hFy
    clear hFy
    go_enter Try.func64, Try.ntmps64
    go_wp2_with (go_at_call 35; refine (NaN_any _).mono ?_; rintro e w' ⟨r, n, hr, rfl, rfl⟩)
    go_ret
    exact fb_is (by rw [HS.out]; exact hr) (by repeat (first | with_reducible exact bl_refl _ | with_reducible assumption | with_reducible refine bl_drewN ?_ _ | with_reducible refine bl_drew ?_ | with_reducible refine bl_alloc ?_ _ | with_reducible refine bl_call ?_ (by assumption)))
  · have hr1 := fun W => run_float_arith (P := Try.prog) W .sub 25 .f64 Y Y 0 (finW_self hFy)
    cases hFx : finW X
    · have HS := Lib.hid (angleW_nan (y := Y) (x := X) (by rw [hFx, Bool.and_false]))
      have hr2 := fun W => run_fopv (P := Try.prog) (op := .sub) rfl 25 .f64 X X W
      have ho := sub_order hFx
      clear hFy hFx
      go_enter Try.func64, Try.ntmps64
      go_wp2_with (go_at_call 35; refine (NaN_any _).mono ?_; rintro e w' ⟨r, n, hr, rfl, rfl⟩)
      go_ret
      exact fb_is (by rw [HS.out]; exact hr) (by repeat (first | with_reducible exact bl_refl _ | with_reducible assumption | with_reducible refine bl_drewN ?_ _ | with_reducible refine bl_drew ?_ | with_reducible refine bl_alloc ?_ _ | with_reducible refine bl_call ?_ (by assumption)))
    · have hF := Lib.hid (show (finW Y && finW X) = true by rw [hFy, hFx]; rfl)
      have hr2 := fun W => run_float_arith (P := Try.prog) W .sub 25 .f64 X X 0 (finW_self hFx)
      clear hFy hFx
      cases hzx : eqz X
      · have hZ := Lib.hid (show (eqz X && eqz Y) = false by rw [hzx]; rfl)
        unfold eqz at hzx
        go_enter Try.func64, Try.ntmps64
        go_upto_region 8 with (go_at_call 36; refine (Abs_keep _ (by assumption) _).mono ?_; rintro e w' ⟨rfl, rfl⟩)
        clear hr1 hr2 h00 hzx
        have hbw := bl_refl w
        go_upto_if 38 with fail
        go_cut [7, 8] (fun vk vc wx => vk = .bool (overB (absB Y) (absB X)) ∧ ∃ f : Nat, vc = .float .f64 f ∧ Is .f64 f (t0F (absB Y) (absB X)) ∧ Below w.heap.size w wx)
        case first =>
          cases hT : overB (absB Y) (absB X)
          · have HT := Lib.hid hT
            unfold overB at hT
            simp only [hT]
            go_wp2_with (first | ((with_reducible refine wpList_fop ?_); refine ⟨_, _, _, ⟨rfl, rfl, rfl, rfl⟩, ?_⟩; intro t n3 ht))
            go_meet
            exact ⟨by first | rfl | rw [HT.out], _, rfl, t0_no HT.out ht, (by repeat (first | with_reducible exact bl_refl _ | with_reducible assumption | with_reducible refine bl_drewN ?_ _ | with_reducible refine bl_drew ?_ | with_reducible refine bl_alloc ?_ _ | with_reducible refine bl_call ?_ (by assumption)))⟩
          · have HT := Lib.hid hT
            unfold overB at hT
            simp only [hT]
            go_wp2_with (first | ((with_reducible refine wpList_fop ?_); refine ⟨_, _, _, ⟨rfl, rfl, rfl, rfl⟩, ?_⟩; intro t n3 ht))
            go_meet
            exact ⟨by first | rfl | rw [HT.out], _, rfl, t0_yes HT.out ht, (by repeat (first | with_reducible exact bl_refl _ | with_reducible assumption | with_reducible refine bl_drewN ?_ _ | with_reducible refine bl_drew ?_ | with_reducible refine bl_alloc ?_ _ | with_reducible refine bl_call ?_ (by assumption)))⟩
        case rest =>
          obtain ⟨rfl, t, rfl, ht, hbw⟩ := hcut
          go_wp2_with fail
          go_loopw [8, 9] (fun ts ks wr => ∃ (j : Nat) (t : Nat), j ≤ 3 ∧ ks = .int .i64 j ∧ ts = .float .f64 t ∧ Is .f64 t (stepsA (t0F (absB Y) (absB X)) j) ∧ Below w.heap.size w wr) (fun _ k _ => 3 - (intOf k).toNat)
          case atStart => exact ⟨0, t, by omega, rfl, rfl, ht, hbw⟩
          case round =>
            clear ht hbw
            obtain ⟨j, t1, hj, rfl, rfl, ht1, hbw⟩ := hrel
            by_cases hlt : j < 3
            · go_wp2_with (first | (go_at_call 45; refine (Sqrt_any _ _).mono ?_; rintro e w' ⟨sq, n5, hs, rfl, rfl⟩) | ((with_reducible refine wpList_fop ?_); refine ⟨_, _, _, ⟨rfl, rfl, rfl, rfl⟩, ?_⟩; intro t n3 ht))
              rename_i m m1 hm a m2 ha b m3 hb
              go_roundw
              case rel => exact ⟨j + 1, _, by omega, by go_num, rfl, stepA_is ht1 hm ha hs hb ht, (by repeat (first | with_reducible exact bl_refl _ | with_reducible assumption | with_reducible refine bl_drewN ?_ _ | with_reducible refine bl_drew ?_ | with_reducible refine bl_alloc ?_ _ | with_reducible refine bl_call ?_ (by assumption)))⟩
              case measure => simp [intOf]; omega
            · obtain rfl : j = 3 := by omega
              go_wp2_with (first | ((with_reducible refine wpList_fop ?_); refine ⟨_, _, _, ⟨rfl, rfl, rfl, rfl⟩, ?_⟩; intro u n6 hu))
              go_loopw [11, 12] (fun ps ks wr => ∃ (j : Nat) (k : Int) (p : Nat), RowKit.Hid (k = 15 - 2 * (j : Int)) ∧ j ≤ 8 ∧ -1 ≤ k ∧ k ≤ 15 ∧ ks = .int .i64 k ∧ ps = .float .f64 p ∧ Is .f64 p (pA u j) ∧ Below w.heap.size w wr) (fun _ k _ => (intOf k + 1).toNat)
              case atStart => exact ⟨0, 15, 0, Lib.hid (by omega), by omega, by omega, by omega, rfl, rfl, Is.refl (by decide), (by repeat (first | with_reducible exact bl_refl _ | with_reducible assumption | with_reducible refine bl_drewN ?_ _ | with_reducible refine bl_drew ?_ | with_reducible refine bl_alloc ?_ _ | with_reducible refine bl_call ?_ (by assumption)))⟩
              case round =>
                obtain ⟨j, k, p, hk, hj, hk1, hk2, rfl, rfl, hp, hbw⟩ := hrel
                by_cases hge : 1 ≤ k
                · have hj2 : j < 8 := by have := hk.out; omega
                  go_wp2_with (first | ((with_reducible refine wpList_fop ?_); refine ⟨_, _, _, ⟨rfl, rfl, rfl, rfl⟩, ?_⟩; intro t n3 ht))
                  rename_i p1 m1 e1 p2 m2 e2
                  go_roundw
                  case rel => exact ⟨j + 1, k - 2, _, Lib.hid (by have := hk.out; omega), by omega, by omega, by omega, rfl, rfl, pA_is hk e1 hp e2 ht, (by repeat (first | with_reducible exact bl_refl _ | with_reducible assumption | with_reducible refine bl_drewN ?_ _ | with_reducible refine bl_drew ?_ | with_reducible refine bl_alloc ?_ _ | with_reducible refine bl_call ?_ (by assumption)))⟩
                  case measure => simp [intOf]; omega
                · obtain rfl : j = 8 := by have := hk.out; omega
                  go_upto_region 23 with (first | ((with_reducible refine wpList_fop ?_); refine ⟨_, _, _, ⟨rfl, rfl, rfl, rfl⟩, ?_⟩; intro g n7 hg))
                  rename_i a m1 ha b m2 hb K0 a0 K1 a1
                  have hg0 := ang0_is ht1 hu hp ha hb hg
                  clear ha hb hg hu hp
                  go_upto_if 76 with fail
                  go_cut [7, 13] (fun vk vc wx => vk = .bool (overB (absB Y) (absB X)) ∧ ∃ f : Nat, vc = .float .f64 f ∧ Is .f64 f (ang1 (absB Y) (absB X) (ang0 (stepsA (t0F (absB Y) (absB X)) 3))) ∧ Below w.heap.size w wx)
                  case first =>
                    cases hT : overB (absB Y) (absB X)
                    · have HT := Lib.hid hT
                      skip
                      go_wp2_with fail
                      go_meet
                      exact ⟨by first | rfl | rw [HT.out], _, rfl, ang1_no HT.out hg0, (by repeat (first | with_reducible exact bl_refl _ | with_reducible assumption | with_reducible refine bl_drewN ?_ _ | with_reducible refine bl_drew ?_ | with_reducible refine bl_alloc ?_ _ | with_reducible refine bl_call ?_ (by assumption)))⟩
                    · have HT := Lib.hid hT
                      skip
                      go_wp2_with (first | ((with_reducible refine wpList_fop ?_); refine ⟨_, _, _, ⟨rfl, rfl, rfl, rfl⟩, ?_⟩; intro t n3 ht))
                      go_meet
                      exact ⟨by first | rfl | rw [HT.out], _, rfl, ang1_yes HT.out hg0 ht, (by repeat (first | with_reducible exact bl_refl _ | with_reducible assumption | with_reducible refine bl_drewN ?_ _ | with_reducible refine bl_drew ?_ | with_reducible refine bl_alloc ?_ _ | with_reducible refine bl_call ?_ (by assumption)))⟩
                  case rest =>
                    clear hg0 hbw
                    obtain ⟨rfl, g1, rfl, hg1, hbw⟩ := hcut
                    go_upto_if 80 with fail
                    go_cut [13] (fun vc wx => ∃ f : Nat, vc = .float .f64 f ∧ Is .f64 f (ang2 X (ang1 (absB Y) (absB X) (ang0 (stepsA (t0F (absB Y) (absB X)) 3)))) ∧ Below w.heap.size w wx)
                    case first =>
                      cases hT : ltz X
                      · have HT := Lib.hid hT
                        unfold ltz at hT
                        simp only [hT]
                        go_wp2_with fail
                        go_meet
                        exact ⟨_, rfl, ang2_no HT.out hg1, (by repeat (first | with_reducible exact bl_refl _ | with_reducible assumption | with_reducible refine bl_drewN ?_ _ | with_reducible refine bl_drew ?_ | with_reducible refine bl_alloc ?_ _ | with_reducible refine bl_call ?_ (by assumption)))⟩
                      · have HT := Lib.hid hT
                        unfold ltz at hT
                        simp only [hT]
                        go_wp2_with (first | ((with_reducible refine wpList_fop ?_); refine ⟨_, _, _, ⟨rfl, rfl, rfl, rfl⟩, ?_⟩; intro t n3 ht))
                        go_meet
                        exact ⟨_, rfl, ang2_yes HT.out hg1 ht, (by repeat (first | with_reducible exact bl_refl _ | with_reducible assumption | with_reducible refine bl_drewN ?_ _ | with_reducible refine bl_drew ?_ | with_reducible refine bl_alloc ?_ _ | with_reducible refine bl_call ?_ (by assumption)))⟩
                    case rest =>
                      clear hg1 hbw
                      obtain ⟨g2, rfl, hg2, hbw⟩ := hcut
                      cases hT : ltz Y
                      · have hA := angleW_is hF.out hZ.out (ang3_no hT hg2)
                        clear hg2
                        unfold ltz at hT
                        go_wp2_with fail
                        go_ret
                        exact fb_is hA (by repeat (first | with_reducible exact bl_refl _ | with_reducible assumption | with_reducible refine bl_drewN ?_ _ | with_reducible refine bl_drew ?_ | with_reducible refine bl_alloc ?_ _ | with_reducible refine bl_call ?_ (by assumption)))
                      · have hA := angleW_is hF.out hZ.out (ang3_yes hT hg2)
                        clear hg2
                        unfold ltz at hT
                        go_wp2_with fail
                        go_ret
                        exact fb_is hA (by repeat (first | with_reducible exact bl_refl _ | with_reducible assumption | with_reducible refine bl_drewN ?_ _ | with_reducible refine bl_drew ?_ | with_reducible refine bl_alloc ?_ _ | with_reducible refine bl_call ?_ (by assumption)))
      · cases hzy : eqz Y
        · have hZ := Lib.hid (show (eqz X && eqz Y) = false by rw [hzx, hzy]; rfl)
          unfold eqz at hzx hzy
          go_enter Try.func64, Try.ntmps64
          go_upto_region 8 with (go_at_call 36; refine (Abs_keep _ (by assumption) _).mono ?_; rintro e w' ⟨rfl, rfl⟩)
          clear hr1 hr2 h00 hzx hzy
          have hbw := bl_refl w
          go_upto_if 38 with fail
          go_cut [7, 8] (fun vk vc wx => vk = .bool (overB (absB Y) (absB X)) ∧ ∃ f : Nat, vc = .float .f64 f ∧ Is .f64 f (t0F (absB Y) (absB X)) ∧ Below w.heap.size w wx)
          case first =>
            cases hT : overB (absB Y) (absB X)
            · have HT := Lib.hid hT
              unfold overB at hT
              simp only [hT]
              go_wp2_with (first | ((with_reducible refine wpList_fop ?_); refine ⟨_, _, _, ⟨rfl, rfl, rfl, rfl⟩, ?_⟩; intro t n3 ht))
              go_meet
              exact ⟨by first | rfl | rw [HT.out], _, rfl, t0_no HT.out ht, (by repeat (first | with_reducible exact bl_refl _ | with_reducible assumption | with_reducible refine bl_drewN ?_ _ | with_reducible refine bl_drew ?_ | with_reducible refine bl_alloc ?_ _ | with_reducible refine bl_call ?_ (by assumption)))⟩
            · have HT := Lib.hid hT
              unfold overB at hT
              simp only [hT]
              go_wp2_with (first | ((with_reducible refine wpList_fop ?_); refine ⟨_, _, _, ⟨rfl, rfl, rfl, rfl⟩, ?_⟩; intro t n3 ht))
              go_meet
              exact ⟨by first | rfl | rw [HT.out], _, rfl, t0_yes HT.out ht, (by repeat (first | with_reducible exact bl_refl _ | with_reducible assumption | with_reducible refine bl_drewN ?_ _ | with_reducible refine bl_drew ?_ | with_reducible refine bl_alloc ?_ _ | with_reducible refine bl_call ?_ (by assumption)))⟩
          case rest =>
            obtain ⟨rfl, t, rfl, ht, hbw⟩ := hcut
            go_wp2_with fail
            go_loopw [8, 9] (fun ts ks wr => ∃ (j : Nat) (t : Nat), j ≤ 3 ∧ ks = .int .i64 j ∧ ts = .float .f64 t ∧ Is .f64 t (stepsA (t0F (absB Y) (absB X)) j) ∧ Below w.heap.size w wr) (fun _ k _ => 3 - (intOf k).toNat)
            case atStart => exact ⟨0, t, by omega, rfl, rfl, ht, hbw⟩
            case round =>
              clear ht hbw
              obtain ⟨j, t1, hj, rfl, rfl, ht1, hbw⟩ := hrel
              by_cases hlt : j < 3
              · go_wp2_with (first | (go_at_call 45; refine (Sqrt_any _ _).mono ?_; rintro e w' ⟨sq, n5, hs, rfl, rfl⟩) | ((with_reducible refine wpList_fop ?_); refine ⟨_, _, _, ⟨rfl, rfl, rfl, rfl⟩, ?_⟩; intro t n3 ht))
                rename_i m m1 hm a m2 ha b m3 hb
                go_roundw
                case rel => exact ⟨j + 1, _, by omega, by go_num, rfl, stepA_is ht1 hm ha hs hb ht, (by repeat (first | with_reducible exact bl_refl _ | with_reducible assumption | with_reducible refine bl_drewN ?_ _ | with_reducible refine bl_drew ?_ | with_reducible refine bl_alloc ?_ _ | with_reducible refine bl_call ?_ (by assumption)))⟩
                case measure => simp [intOf]; omega
              · obtain rfl : j = 3 := by omega
                go_wp2_with (first | ((with_reducible refine wpList_fop ?_); refine ⟨_, _, _, ⟨rfl, rfl, rfl, rfl⟩, ?_⟩; intro u n6 hu))
                go_loopw [11, 12] (fun ps ks wr => ∃ (j : Nat) (k : Int) (p : Nat), RowKit.Hid (k = 15 - 2 * (j : Int)) ∧ j ≤ 8 ∧ -1 ≤ k ∧ k ≤ 15 ∧ ks = .int .i64 k ∧ ps = .float .f64 p ∧ Is .f64 p (pA u j) ∧ Below w.heap.size w wr) (fun _ k _ => (intOf k + 1).toNat)
                case atStart => exact ⟨0, 15, 0, Lib.hid (by omega), by omega, by omega, by omega, rfl, rfl, Is.refl (by decide), (by repeat (first | with_reducible exact bl_refl _ | with_reducible assumption | with_reducible refine bl_drewN ?_ _ | with_reducible refine bl_drew ?_ | with_reducible refine bl_alloc ?_ _ | with_reducible refine bl_call ?_ (by assumption)))⟩
                case round =>
                  obtain ⟨j, k, p, hk, hj, hk1, hk2, rfl, rfl, hp, hbw⟩ := hrel
                  by_cases hge : 1 ≤ k
                  · have hj2 : j < 8 := by have := hk.out; omega
                    go_wp2_with (first | ((with_reducible refine wpList_fop ?_); refine ⟨_, _, _, ⟨rfl, rfl, rfl, rfl⟩, ?_⟩; intro t n3 ht))
                    rename_i p1 m1 e1 p2 m2 e2
                    go_roundw
                    case rel => exact ⟨j + 1, k - 2, _, Lib.hid (by have := hk.out; omega), by omega, by omega, by omega, rfl, rfl, pA_is hk e1 hp e2 ht, (by repeat (first | with_reducible exact bl_refl _ | with_reducible assumption | with_reducible refine bl_drewN ?_ _ | with_reducible refine bl_drew ?_ | with_reducible refine bl_alloc ?_ _ | with_reducible refine bl_call ?_ (by assumption)))⟩
                    case measure => simp [intOf]; omega
                  · obtain rfl : j = 8 := by have := hk.out; omega
                    go_upto_region 23 with (first | ((with_reducible refine wpList_fop ?_); refine ⟨_, _, _, ⟨rfl, rfl, rfl, rfl⟩, ?_⟩; intro g n7 hg))
                    rename_i a m1 ha b m2 hb K0 a0 K1 a1
                    have hg0 := ang0_is ht1 hu hp ha hb hg
                    clear ha hb hg hu hp
                    go_upto_if 76 with fail
                    go_cut [7, 13] (fun vk vc wx => vk = .bool (overB (absB Y) (absB X)) ∧ ∃ f : Nat, vc = .float .f64 f ∧ Is .f64 f (ang1 (absB Y) (absB X) (ang0 (stepsA (t0F (absB Y) (absB X)) 3))) ∧ Below w.heap.size w wx)
                    case first =>
                      cases hT : overB (absB Y) (absB X)
                      · have HT := Lib.hid hT
                        skip
                        go_wp2_with fail
                        go_meet
                        exact ⟨by first | rfl | rw [HT.out], _, rfl, ang1_no HT.out hg0, (by repeat (first | with_reducible exact bl_refl _ | with_reducible assumption | with_reducible refine bl_drewN ?_ _ | with_reducible refine bl_drew ?_ | with_reducible refine bl_alloc ?_ _ | with_reducible refine bl_call ?_ (by assumption)))⟩
                      · have HT := Lib.hid hT
                        skip
                        go_wp2_with (first | ((with_reducible refine wpList_fop ?_); refine ⟨_, _, _, ⟨rfl, rfl, rfl, rfl⟩, ?_⟩; intro t n3 ht))
                        go_meet
                        exact ⟨by first | rfl | rw [HT.out], _, rfl, ang1_yes HT.out hg0 ht, (by repeat (first | with_reducible exact bl_refl _ | with_reducible assumption | with_reducible refine bl_drewN ?_ _ | with_reducible refine bl_drew ?_ | with_reducible refine bl_alloc ?_ _ | with_reducible refine bl_call ?_ (by assumption)))⟩
                    case rest =>
                      clear hg0 hbw
                      obtain ⟨rfl, g1, rfl, hg1, hbw⟩ := hcut
                      go_upto_if 80 with fail
                      go_cut [13] (fun vc wx => ∃ f : Nat, vc = .float .f64 f ∧ Is .f64 f (ang2 X (ang1 (absB Y) (absB X) (ang0 (stepsA (t0F (absB Y) (absB X)) 3)))) ∧ Below w.heap.size w wx)
                      case first =>
                        cases hT : ltz X
                        · have HT := Lib.hid hT
                          unfold ltz at hT
                          simp only [hT]
                          go_wp2_with fail
                          go_meet
                          exact ⟨_, rfl, ang2_no HT.out hg1, (by repeat (first | with_reducible exact bl_refl _ | with_reducible assumption | with_reducible refine bl_drewN ?_ _ | with_reducible refine bl_drew ?_ | with_reducible refine bl_alloc ?_ _ | with_reducible refine bl_call ?_ (by assumption)))⟩
                        · have HT := Lib.hid hT
                          unfold ltz at hT
                          simp only [hT]
                          go_wp2_with (first | ((with_reducible refine wpList_fop ?_); refine ⟨_, _, _, ⟨rfl, rfl, rfl, rfl⟩, ?_⟩; intro t n3 ht))
                          go_meet
                          exact ⟨_, rfl, ang2_yes HT.out hg1 ht, (by repeat (first | with_reducible exact bl_refl _ | with_reducible assumption | with_reducible refine bl_drewN ?_ _ | with_reducible refine bl_drew ?_ | with_reducible refine bl_alloc ?_ _ | with_reducible refine bl_call ?_ (by assumption)))⟩
                      case rest =>
                        clear hg1 hbw
                        obtain ⟨g2, rfl, hg2, hbw⟩ := hcut
                        cases hT : ltz Y
                        · have hA := angleW_is hF.out hZ.out (ang3_no hT hg2)
                          clear hg2
                          unfold ltz at hT
                          go_wp2_with fail
                          go_ret
                          exact fb_is hA (by repeat (first | with_reducible exact bl_refl _ | with_reducible assumption | with_reducible refine bl_drewN ?_ _ | with_reducible refine bl_drew ?_ | with_reducible refine bl_alloc ?_ _ | with_reducible refine bl_call ?_ (by assumption)))
                        · have hA := angleW_is hF.out hZ.out (ang3_yes hT hg2)
                          clear hg2
                          unfold ltz at hT
                          go_wp2_with fail
                          go_ret
                          exact fb_is hA (by repeat (first | with_reducible exact bl_refl _ | with_reducible assumption | with_reducible refine bl_drewN ?_ _ | with_reducible refine bl_drew ?_ | with_reducible refine bl_alloc ?_ _ | with_reducible refine bl_call ?_ (by assumption)))
        · have HS := Lib.hid (angleW_zero hF.out (show (eqz X && eqz Y) = true by rw [hzx, hzy]; rfl))
          unfold eqz at hzx hzy
          go_enter Try.func64, Try.ntmps64
          go_wp2_with fail
          go_ret
          exact fb_is (by rw [HS.out]; exact Is.refl (by decide)) (by repeat (first | with_reducible exact bl_refl _ | with_reducible assumption | with_reducible refine bl_drewN ?_ _ | with_reducible refine bl_drew ?_ | with_reducible refine bl_alloc ?_ _ | with_reducible refine bl_call ?_ (by assumption)))
def angleF (y x : Nat) : Nat := fnarrow (angleW (fwiden y) (fwiden x))
theorem eqz_congr {x y : Nat} (h : Fl.cn .f64 x = Fl.cn .f64 y) : eqz x = eqz y := by unfold eqz; rw [order_congr h rfl]
theorem fin_not_nan {q : Nat} (h : finW q = true) : isNan .f64 q = false := (finW_number h).1
theorem angle_ov' {Y X r : Nat} (hY : Y < 18446744073709551616) (hX : X < 18446744073709551616) (hr : Is .f64 r (angleW Y X)) : overflows r = false := by
  rw [overflows_congr hr.cn, angle_ov hY hX]
theorem angleW_congr {Y X Y' X' : Nat} (hY : Fl.cn .f64 Y = Fl.cn .f64 Y') (hX : Fl.cn .f64 X = Fl.cn .f64 X') : angleW Y X = angleW Y' X' := by
  cases hn : isNan .f64 Y
  · rw [eq_of_cn hY hn]
    cases hm : isNan .f64 X
    · rw [eq_of_cn hX hm]
    · have f1 : finW X = false := by unfold finW; rw [fop_nan_l _ _ hm, order_nan_left _ (isNan_nanW .f64)]; rfl
      rw [angleW_nan (by rw [f1, Bool.and_false]), angleW_nan (by rw [← finW_congr hX, f1, Bool.and_false])]
  · have f1 : finW Y = false := by unfold finW; rw [fop_nan_l _ _ hn, order_nan_left _ (isNan_nanW .f64)]; rfl
    rw [angleW_nan (by rw [f1]; rfl), angleW_nan (by rw [← finW_congr hY, f1]; rfl)]
theorem angle_is {y x Y X r s : Nat} (hY : Is .f64 Y (fwiden y)) (hX : Is .f64 X (fwiden x)) (hr : Is .f64 r (angleW Y X)) (hs : Is .f32 s (fnarrow r)) : Is .f32 s (angleF y x) := by
  unfold angleF
  rw [← angleW_congr hY.cn hX.cn, ← fnarrow_congr hr.cn]; exact hs
theorem angle_nan {y x r s : Nat} (hF : (isFin y && isFin x) = false) (hr : Is .f64 r (nanW .f64)) (hs : Is .f32 s (fnarrow r)) : Is .f32 s (angleF y x) := by
  unfold angleF
  rw [angleW_nan (by rw [fin_wide, fin_wide, hF]), ← fnarrow_congr hr.cn]; exact hs
theorem angle_zero {y x : Nat} (hF : (isFin y && isFin x) = true) (hx : (FloatKind.f32.format.order x 0 == some .eq) = true) (hy : (FloatKind.f32.format.order y 0 == some .eq) = true) : Is .f32 0 (angleF y x) := by
  have h1 : isFin y = true := by revert hF; cases isFin y <;> simp
  have h2 : isFin x = true := by revert hF; rw [h1]; cases isFin x <;> simp
  unfold angleF
  rw [angleW_zero (by rw [fin_wide, fin_wide, hF]) (by unfold eqz; rw [wide_zero h2, wide_zero h1, hx, hy]; rfl), show fnarrow 0 = 0 by decide +kernel]
  exact Is.refl (by decide)
theorem angle_hyp {y x Y X : Nat} (hF : (isFin y && isFin x) = true) (hY : Is .f64 Y (fwiden y)) (hX : Is .f64 X (fwiden x)) (hz : ((FloatKind.f32.format.order x 0 == some .eq) && (FloatKind.f32.format.order y 0 == some .eq)) = false) :
    (finW Y && finW X) = true ∧ (eqz X && eqz Y) = false ∧ ltz X = (FloatKind.f32.format.order x 0 == some .lt) ∧ ltz Y = (FloatKind.f32.format.order y 0 == some .lt) := by
  have h1 : isFin y = true := by revert hF; cases isFin y <;> simp
  have h2 : isFin x = true := by revert hF; rw [h1]; cases isFin x <;> simp
  refine ⟨by rw [fin_of hY, fin_of hX, hF], ?_, ?_, ?_⟩
  · rw [eqz_congr hX.cn, eqz_congr hY.cn]; unfold eqz; rw [wide_zero h2, wide_zero h1]; exact hz
  · rw [ltz_congr hX.cn]; unfold ltz; rw [wide_zero h2]
  · rw [ltz_congr hY.cn]; unfold ltz; rw [wide_zero h1]
set_option maxRecDepth 100000 in
set_option maxHeartbeats 4000000 in
theorem AngleTurns_any (y x : Nat) (w : World) : Calls Try.prog 25 #[.float .f32 y, .float .f32 x] w (FB w .f32 (angleF y x)) := by
  have F := fin2_alloc w w.heap.size y x 22 rfl
  go_enter Try.func25, Try.ntmps25
  go_wp2_with fail
  refine (finite_any _ [y, x] _ F (by simp)).mono ?_
  rintro e w' ⟨rfl, m, rfl⟩
  have hb0 := bl_drewN (bl_alloc (bl_refl w) (.cells #[.float .f32 y, .float .f32 x] 22)) m
  clear F
  cases hF0 : (isFin y && isFin x)
  · have e2 : allFin [y, x] 2 = false := by rw [allFin2, hF0]
    have hF := Lib.hid hF0
    clear hF0
    go_wp2_with (first | (go_at_call 35; refine (NaN_any _).mono ?_; rintro e w' ⟨r, n, hr, rfl, rfl⟩) | ((with_reducible refine wpList_narrow ?_); refine ⟨_, ⟨rfl, rfl, by rw [Try.underlying25]; rfl, Try.underlying22⟩, (by rw [overflows_congr hr.cn]; exact bdd_narrow (bdd_nan 2) (by omega)), ?_⟩; intro s m hs))
    go_ret
    exact ⟨_, angle_nan hF.out hr hs, rfl, (by repeat (first | with_reducible exact bl_refl _ | with_reducible assumption | with_reducible refine bl_drewN ?_ _ | with_reducible refine bl_drew ?_ | with_reducible refine bl_alloc ?_ _ | with_reducible refine bl_call ?_ (by assumption)))⟩
  · have e2 : allFin [y, x] 2 = true := by rw [allFin2, hF0]
    have hF := Lib.hid hF0
    clear hF0
    cases hzx : (FloatKind.f32.format.order x 0 == some .eq)
    · have hZ0 := Lib.hid (show ((FloatKind.f32.format.order x 0 == some .eq) && (FloatKind.f32.format.order y 0 == some .eq)) = false by rw [hzx]; rfl)
      go_upto_region 6 with (first | ((with_reducible refine wpList_widen ?_); refine ⟨_, ⟨rfl, rfl, by rw [Try.underlying22]; rfl, Try.underlying25⟩, ?_⟩; intro q n hq) | (go_at_call 36; refine (Abs_keep _ ((lt64 _).1 hq.lt) _).mono ?_; rintro e w' ⟨rfl, rfl⟩))
      rename_i qy ny hqy K0 a0
      have hbw := (bl_drewN hb0 _ : Below w.heap.size w (((w.alloc (.cells #[.float .f32 y, .float .f32 x] 22)).drewN m).drewN (ny + n)))
      obtain ⟨g1, g2, g3, g4⟩ := angle_hyp hF.out hqy hq hZ0.out
      have hFF := Lib.hid g1
      have hZ := Lib.hid g2
      have hXl := Lib.hid g3
      have hYl := Lib.hid g4
      have hqY := Lib.hid hqy
      have hqX := Lib.hid hq
      have hlY := (lt64 _).1 hqy.lt
      have hlX := (lt64 _).1 hq.lt
      clear g1 g2 g3 g4 hqy hq hF hb0 hZ0 e2 hzx
      have hF := hFF
      clear hFF
      go_upto_if 38 with (first | ((with_reducible refine wpList_fop ?_); refine ⟨_, _, _, ⟨rfl, rfl, rfl, rfl⟩, ?_⟩; intro t0 n1 h0))
      go_cut [7] (fun vc wx => ∃ f : Nat, vc = .float .f64 f ∧ Is .f64 f (t0F (absB qy) (absB q)) ∧ Below w.heap.size w wx)
      case first =>
        cases hT : overB (absB qy) (absB q)
        · have HT := Lib.hid hT
          unfold overB at hT
          simp only [hT]
          go_wp2_with fail
          go_meet
          exact ⟨_, rfl, t0_no HT.out h0, (by repeat (first | with_reducible exact bl_refl _ | with_reducible assumption | with_reducible refine bl_drewN ?_ _ | with_reducible refine bl_drew ?_ | with_reducible refine bl_alloc ?_ _ | with_reducible refine bl_call ?_ (by assumption)))⟩
        · have HT := Lib.hid hT
          unfold overB at hT
          simp only [hT]
          go_wp2_with (first | ((with_reducible refine wpList_fop ?_); refine ⟨_, _, _, ⟨rfl, rfl, rfl, rfl⟩, ?_⟩; intro t n3 ht))
          go_meet
          exact ⟨_, rfl, t0_yes HT.out ht, (by repeat (first | with_reducible exact bl_refl _ | with_reducible assumption | with_reducible refine bl_drewN ?_ _ | with_reducible refine bl_drew ?_ | with_reducible refine bl_alloc ?_ _ | with_reducible refine bl_call ?_ (by assumption)))⟩
      case rest =>
        clear h0
        obtain ⟨t, rfl, ht, hbw⟩ := hcut
        go_wp2_with fail
        go_loopw [7, 42] (fun ts ks wr => ∃ (j : Nat) (t : Nat), j ≤ 3 ∧ ks = .int .i64 j ∧ ts = .float .f64 t ∧ Is .f64 t (stepsA (t0F (absB qy) (absB q)) j) ∧ Below w.heap.size w wr) (fun _ k _ => 3 - (intOf k).toNat)
        case atStart => exact ⟨0, t, by omega, rfl, rfl, ht, hbw⟩
        case round =>
          clear ht hbw
          obtain ⟨j, t1, hj, rfl, rfl, ht1, hbw⟩ := hrel
          by_cases hlt : j < 3
          · go_wp2_with (first | (go_at_call 45; refine (Sqrt_any _ _).mono ?_; rintro e w' ⟨sq, n5, hs, rfl, rfl⟩) | ((with_reducible refine wpList_fop ?_); refine ⟨_, _, _, ⟨rfl, rfl, rfl, rfl⟩, ?_⟩; intro t n3 ht))
            rename_i m m1 hm a m2 ha b m3 hb
            go_roundw
            case rel => exact ⟨j + 1, _, by omega, by go_num, rfl, stepA_is ht1 hm ha hs hb ht, (by repeat (first | with_reducible exact bl_refl _ | with_reducible assumption | with_reducible refine bl_drewN ?_ _ | with_reducible refine bl_drew ?_ | with_reducible refine bl_alloc ?_ _ | with_reducible refine bl_call ?_ (by assumption)))⟩
            case measure => simp [intOf]; omega
          · obtain rfl : j = 3 := by omega
            go_wp2_with (first | ((with_reducible refine wpList_fop ?_); refine ⟨_, _, _, ⟨rfl, rfl, rfl, rfl⟩, ?_⟩; intro u n6 hu))
            go_loopw [9, 10] (fun ps ks wr => ∃ (j : Nat) (k : Int) (p : Nat), RowKit.Hid (k = 15 - 2 * (j : Int)) ∧ j ≤ 8 ∧ -1 ≤ k ∧ k ≤ 15 ∧ ks = .int .i64 k ∧ ps = .float .f64 p ∧ Is .f64 p (pA u j) ∧ Below w.heap.size w wr) (fun _ k _ => (intOf k + 1).toNat)
            case atStart => exact ⟨0, 15, 0, Lib.hid (by omega), by omega, by omega, by omega, rfl, rfl, Is.refl (by decide), (by repeat (first | with_reducible exact bl_refl _ | with_reducible assumption | with_reducible refine bl_drewN ?_ _ | with_reducible refine bl_drew ?_ | with_reducible refine bl_alloc ?_ _ | with_reducible refine bl_call ?_ (by assumption)))⟩
            case round =>
              obtain ⟨j, k, p, hk, hj, hk1, hk2, rfl, rfl, hp, hbw⟩ := hrel
              by_cases hge : 1 ≤ k
              · have hj2 : j < 8 := by have := hk.out; omega
                go_wp2_with (first | ((with_reducible refine wpList_fop ?_); refine ⟨_, _, _, ⟨rfl, rfl, rfl, rfl⟩, ?_⟩; intro t n3 ht))
                rename_i p1 m1 e1 p2 m2 e2
                go_roundw
                case rel => exact ⟨j + 1, k - 2, _, Lib.hid (by have := hk.out; omega), by omega, by omega, by omega, rfl, rfl, pA_is hk e1 hp e2 ht, (by repeat (first | with_reducible exact bl_refl _ | with_reducible assumption | with_reducible refine bl_drewN ?_ _ | with_reducible refine bl_drew ?_ | with_reducible refine bl_alloc ?_ _ | with_reducible refine bl_call ?_ (by assumption)))⟩
                case measure => simp [intOf]; omega
              · obtain rfl : j = 8 := by have := hk.out; omega
                go_upto_region 19 with (first | ((with_reducible refine wpList_fop ?_); refine ⟨_, _, _, ⟨rfl, rfl, rfl, rfl⟩, ?_⟩; intro g n7 hg))
                rename_i a m1 ha b m2 hb K0 a0 K1 a1
                have hg0 := ang0_is ht1 hu hp ha hb hg
                clear ha hb hg hu hp
                go_upto_if 74 with fail
                go_cut [11] (fun vc wx => ∃ f : Nat, vc = .float .f64 f ∧ Is .f64 f (ang1 (absB qy) (absB q) (ang0 (stepsA (t0F (absB qy) (absB q)) 3))) ∧ Below w.heap.size w wx)
                case first =>
                  cases hT : overB (absB qy) (absB q)
                  · have HT := Lib.hid hT
                    unfold overB at hT
                    simp only [hT]
                    go_wp2_with fail
                    go_meet
                    exact ⟨_, rfl, ang1_no HT.out hg0, (by repeat (first | with_reducible exact bl_refl _ | with_reducible assumption | with_reducible refine bl_drewN ?_ _ | with_reducible refine bl_drew ?_ | with_reducible refine bl_alloc ?_ _ | with_reducible refine bl_call ?_ (by assumption)))⟩
                  · have HT := Lib.hid hT
                    unfold overB at hT
                    simp only [hT]
                    go_wp2_with (first | ((with_reducible refine wpList_fop ?_); refine ⟨_, _, _, ⟨rfl, rfl, rfl, rfl⟩, ?_⟩; intro t n3 ht))
                    go_meet
                    exact ⟨_, rfl, ang1_yes HT.out hg0 ht, (by repeat (first | with_reducible exact bl_refl _ | with_reducible assumption | with_reducible refine bl_drewN ?_ _ | with_reducible refine bl_drew ?_ | with_reducible refine bl_alloc ?_ _ | with_reducible refine bl_call ?_ (by assumption)))⟩
                case rest =>
                  clear hg0 hbw
                  obtain ⟨g1, rfl, hg1, hbw⟩ := hcut
                  go_upto_if 78 with fail
                  go_cut [11] (fun vc wx => ∃ f : Nat, vc = .float .f64 f ∧ Is .f64 f (ang2 q (ang1 (absB qy) (absB q) (ang0 (stepsA (t0F (absB qy) (absB q)) 3)))) ∧ Below w.heap.size w wx)
                  case first =>
                    cases hT : ltz q
                    · have HT := Lib.hid hT
                      rw [hXl.out] at hT
                      simp only [hT]
                      go_wp2_with fail
                      go_meet
                      exact ⟨_, rfl, ang2_no HT.out hg1, (by repeat (first | with_reducible exact bl_refl _ | with_reducible assumption | with_reducible refine bl_drewN ?_ _ | with_reducible refine bl_drew ?_ | with_reducible refine bl_alloc ?_ _ | with_reducible refine bl_call ?_ (by assumption)))⟩
                    · have HT := Lib.hid hT
                      rw [hXl.out] at hT
                      simp only [hT]
                      go_wp2_with (first | ((with_reducible refine wpList_fop ?_); refine ⟨_, _, _, ⟨rfl, rfl, rfl, rfl⟩, ?_⟩; intro t n3 ht))
                      go_meet
                      exact ⟨_, rfl, ang2_yes HT.out hg1 ht, (by repeat (first | with_reducible exact bl_refl _ | with_reducible assumption | with_reducible refine bl_drewN ?_ _ | with_reducible refine bl_drew ?_ | with_reducible refine bl_alloc ?_ _ | with_reducible refine bl_call ?_ (by assumption)))⟩
                  case rest =>
                    clear hg1 hbw
                    obtain ⟨g2, rfl, hg2, hbw⟩ := hcut
                    go_upto_if 82 with fail
                    go_cut [11] (fun vc wx => ∃ f : Nat, vc = .float .f64 f ∧ Is .f64 f (ang3 qy (ang2 q (ang1 (absB qy) (absB q) (ang0 (stepsA (t0F (absB qy) (absB q)) 3))))) ∧ Below w.heap.size w wx)
                    case first =>
                      cases hT : ltz qy
                      · have HT := Lib.hid hT
                        rw [hYl.out] at hT
                        simp only [hT]
                        go_wp2_with fail
                        go_meet
                        exact ⟨_, rfl, ang3_no HT.out hg2, (by repeat (first | with_reducible exact bl_refl _ | with_reducible assumption | with_reducible refine bl_drewN ?_ _ | with_reducible refine bl_drew ?_ | with_reducible refine bl_alloc ?_ _ | with_reducible refine bl_call ?_ (by assumption)))⟩
                      · have HT := Lib.hid hT
                        rw [hYl.out] at hT
                        simp only [hT]
                        go_wp2_with fail
                        go_meet
                        exact ⟨_, rfl, ang3_yes HT.out hg2, (by repeat (first | with_reducible exact bl_refl _ | with_reducible assumption | with_reducible refine bl_drewN ?_ _ | with_reducible refine bl_drew ?_ | with_reducible refine bl_alloc ?_ _ | with_reducible refine bl_call ?_ (by assumption)))⟩
                    case rest =>
                      clear hg2 hbw
                      obtain ⟨g3, rfl, hg3, hbw⟩ := hcut
                      have hA := angleW_is hF.out hZ.out hg3
                      clear hg3
                      go_wp2_with ((with_reducible refine wpList_narrow ?_); refine ⟨_, ⟨rfl, rfl, by rw [Try.underlying25]; rfl, Try.underlying22⟩, angle_ov' hlY hlX hA, ?_⟩; intro s m hs)
                      go_ret
                      exact ⟨_, angle_is hqY.out hqX.out hA hs, rfl, (by repeat (first | with_reducible exact bl_refl _ | with_reducible assumption | with_reducible refine bl_drewN ?_ _ | with_reducible refine bl_drew ?_ | with_reducible refine bl_alloc ?_ _ | with_reducible refine bl_call ?_ (by assumption)))⟩
    · cases hzy : (FloatKind.f32.format.order y 0 == some .eq)
      · have hZ0 := Lib.hid (show ((FloatKind.f32.format.order x 0 == some .eq) && (FloatKind.f32.format.order y 0 == some .eq)) = false by rw [hzx, hzy]; rfl)
        go_upto_region 6 with (first | ((with_reducible refine wpList_widen ?_); refine ⟨_, ⟨rfl, rfl, by rw [Try.underlying22]; rfl, Try.underlying25⟩, ?_⟩; intro q n hq) | (go_at_call 36; refine (Abs_keep _ ((lt64 _).1 hq.lt) _).mono ?_; rintro e w' ⟨rfl, rfl⟩))
        rename_i qy ny hqy K0 a0
        have hbw := (bl_drewN hb0 _ : Below w.heap.size w (((w.alloc (.cells #[.float .f32 y, .float .f32 x] 22)).drewN m).drewN (ny + n)))
        obtain ⟨g1, g2, g3, g4⟩ := angle_hyp hF.out hqy hq hZ0.out
        have hFF := Lib.hid g1
        have hZ := Lib.hid g2
        have hXl := Lib.hid g3
        have hYl := Lib.hid g4
        have hqY := Lib.hid hqy
        have hqX := Lib.hid hq
        have hlY := (lt64 _).1 hqy.lt
        have hlX := (lt64 _).1 hq.lt
        clear g1 g2 g3 g4 hqy hq hF hb0 hZ0 e2 hzx hzy
        have hF := hFF
        clear hFF
        go_upto_if 38 with (first | ((with_reducible refine wpList_fop ?_); refine ⟨_, _, _, ⟨rfl, rfl, rfl, rfl⟩, ?_⟩; intro t0 n1 h0))
        go_cut [7] (fun vc wx => ∃ f : Nat, vc = .float .f64 f ∧ Is .f64 f (t0F (absB qy) (absB q)) ∧ Below w.heap.size w wx)
        case first =>
          cases hT : overB (absB qy) (absB q)
          · have HT := Lib.hid hT
            unfold overB at hT
            simp only [hT]
            go_wp2_with fail
            go_meet
            exact ⟨_, rfl, t0_no HT.out h0, (by repeat (first | with_reducible exact bl_refl _ | with_reducible assumption | with_reducible refine bl_drewN ?_ _ | with_reducible refine bl_drew ?_ | with_reducible refine bl_alloc ?_ _ | with_reducible refine bl_call ?_ (by assumption)))⟩
          · have HT := Lib.hid hT
            unfold overB at hT
            simp only [hT]
            go_wp2_with (first | ((with_reducible refine wpList_fop ?_); refine ⟨_, _, _, ⟨rfl, rfl, rfl, rfl⟩, ?_⟩; intro t n3 ht))
            go_meet
            exact ⟨_, rfl, t0_yes HT.out ht, (by repeat (first | with_reducible exact bl_refl _ | with_reducible assumption | with_reducible refine bl_drewN ?_ _ | with_reducible refine bl_drew ?_ | with_reducible refine bl_alloc ?_ _ | with_reducible refine bl_call ?_ (by assumption)))⟩
        case rest =>
          clear h0
          obtain ⟨t, rfl, ht, hbw⟩ := hcut
          go_wp2_with fail
          go_loopw [7, 42] (fun ts ks wr => ∃ (j : Nat) (t : Nat), j ≤ 3 ∧ ks = .int .i64 j ∧ ts = .float .f64 t ∧ Is .f64 t (stepsA (t0F (absB qy) (absB q)) j) ∧ Below w.heap.size w wr) (fun _ k _ => 3 - (intOf k).toNat)
          case atStart => exact ⟨0, t, by omega, rfl, rfl, ht, hbw⟩
          case round =>
            clear ht hbw
            obtain ⟨j, t1, hj, rfl, rfl, ht1, hbw⟩ := hrel
            by_cases hlt : j < 3
            · go_wp2_with (first | (go_at_call 45; refine (Sqrt_any _ _).mono ?_; rintro e w' ⟨sq, n5, hs, rfl, rfl⟩) | ((with_reducible refine wpList_fop ?_); refine ⟨_, _, _, ⟨rfl, rfl, rfl, rfl⟩, ?_⟩; intro t n3 ht))
              rename_i m m1 hm a m2 ha b m3 hb
              go_roundw
              case rel => exact ⟨j + 1, _, by omega, by go_num, rfl, stepA_is ht1 hm ha hs hb ht, (by repeat (first | with_reducible exact bl_refl _ | with_reducible assumption | with_reducible refine bl_drewN ?_ _ | with_reducible refine bl_drew ?_ | with_reducible refine bl_alloc ?_ _ | with_reducible refine bl_call ?_ (by assumption)))⟩
              case measure => simp [intOf]; omega
            · obtain rfl : j = 3 := by omega
              go_wp2_with (first | ((with_reducible refine wpList_fop ?_); refine ⟨_, _, _, ⟨rfl, rfl, rfl, rfl⟩, ?_⟩; intro u n6 hu))
              go_loopw [9, 10] (fun ps ks wr => ∃ (j : Nat) (k : Int) (p : Nat), RowKit.Hid (k = 15 - 2 * (j : Int)) ∧ j ≤ 8 ∧ -1 ≤ k ∧ k ≤ 15 ∧ ks = .int .i64 k ∧ ps = .float .f64 p ∧ Is .f64 p (pA u j) ∧ Below w.heap.size w wr) (fun _ k _ => (intOf k + 1).toNat)
              case atStart => exact ⟨0, 15, 0, Lib.hid (by omega), by omega, by omega, by omega, rfl, rfl, Is.refl (by decide), (by repeat (first | with_reducible exact bl_refl _ | with_reducible assumption | with_reducible refine bl_drewN ?_ _ | with_reducible refine bl_drew ?_ | with_reducible refine bl_alloc ?_ _ | with_reducible refine bl_call ?_ (by assumption)))⟩
              case round =>
                obtain ⟨j, k, p, hk, hj, hk1, hk2, rfl, rfl, hp, hbw⟩ := hrel
                by_cases hge : 1 ≤ k
                · have hj2 : j < 8 := by have := hk.out; omega
                  go_wp2_with (first | ((with_reducible refine wpList_fop ?_); refine ⟨_, _, _, ⟨rfl, rfl, rfl, rfl⟩, ?_⟩; intro t n3 ht))
                  rename_i p1 m1 e1 p2 m2 e2
                  go_roundw
                  case rel => exact ⟨j + 1, k - 2, _, Lib.hid (by have := hk.out; omega), by omega, by omega, by omega, rfl, rfl, pA_is hk e1 hp e2 ht, (by repeat (first | with_reducible exact bl_refl _ | with_reducible assumption | with_reducible refine bl_drewN ?_ _ | with_reducible refine bl_drew ?_ | with_reducible refine bl_alloc ?_ _ | with_reducible refine bl_call ?_ (by assumption)))⟩
                  case measure => simp [intOf]; omega
                · obtain rfl : j = 8 := by have := hk.out; omega
                  go_upto_region 19 with (first | ((with_reducible refine wpList_fop ?_); refine ⟨_, _, _, ⟨rfl, rfl, rfl, rfl⟩, ?_⟩; intro g n7 hg))
                  rename_i a m1 ha b m2 hb K0 a0 K1 a1
                  have hg0 := ang0_is ht1 hu hp ha hb hg
                  clear ha hb hg hu hp
                  go_upto_if 74 with fail
                  go_cut [11] (fun vc wx => ∃ f : Nat, vc = .float .f64 f ∧ Is .f64 f (ang1 (absB qy) (absB q) (ang0 (stepsA (t0F (absB qy) (absB q)) 3))) ∧ Below w.heap.size w wx)
                  case first =>
                    cases hT : overB (absB qy) (absB q)
                    · have HT := Lib.hid hT
                      unfold overB at hT
                      simp only [hT]
                      go_wp2_with fail
                      go_meet
                      exact ⟨_, rfl, ang1_no HT.out hg0, (by repeat (first | with_reducible exact bl_refl _ | with_reducible assumption | with_reducible refine bl_drewN ?_ _ | with_reducible refine bl_drew ?_ | with_reducible refine bl_alloc ?_ _ | with_reducible refine bl_call ?_ (by assumption)))⟩
                    · have HT := Lib.hid hT
                      unfold overB at hT
                      simp only [hT]
                      go_wp2_with (first | ((with_reducible refine wpList_fop ?_); refine ⟨_, _, _, ⟨rfl, rfl, rfl, rfl⟩, ?_⟩; intro t n3 ht))
                      go_meet
                      exact ⟨_, rfl, ang1_yes HT.out hg0 ht, (by repeat (first | with_reducible exact bl_refl _ | with_reducible assumption | with_reducible refine bl_drewN ?_ _ | with_reducible refine bl_drew ?_ | with_reducible refine bl_alloc ?_ _ | with_reducible refine bl_call ?_ (by assumption)))⟩
                  case rest =>
                    clear hg0 hbw
                    obtain ⟨g1, rfl, hg1, hbw⟩ := hcut
                    go_upto_if 78 with fail
                    go_cut [11] (fun vc wx => ∃ f : Nat, vc = .float .f64 f ∧ Is .f64 f (ang2 q (ang1 (absB qy) (absB q) (ang0 (stepsA (t0F (absB qy) (absB q)) 3)))) ∧ Below w.heap.size w wx)
                    case first =>
                      cases hT : ltz q
                      · have HT := Lib.hid hT
                        rw [hXl.out] at hT
                        simp only [hT]
                        go_wp2_with fail
                        go_meet
                        exact ⟨_, rfl, ang2_no HT.out hg1, (by repeat (first | with_reducible exact bl_refl _ | with_reducible assumption | with_reducible refine bl_drewN ?_ _ | with_reducible refine bl_drew ?_ | with_reducible refine bl_alloc ?_ _ | with_reducible refine bl_call ?_ (by assumption)))⟩
                      · have HT := Lib.hid hT
                        rw [hXl.out] at hT
                        simp only [hT]
                        go_wp2_with (first | ((with_reducible refine wpList_fop ?_); refine ⟨_, _, _, ⟨rfl, rfl, rfl, rfl⟩, ?_⟩; intro t n3 ht))
                        go_meet
                        exact ⟨_, rfl, ang2_yes HT.out hg1 ht, (by repeat (first | with_reducible exact bl_refl _ | with_reducible assumption | with_reducible refine bl_drewN ?_ _ | with_reducible refine bl_drew ?_ | with_reducible refine bl_alloc ?_ _ | with_reducible refine bl_call ?_ (by assumption)))⟩
                    case rest =>
                      clear hg1 hbw
                      obtain ⟨g2, rfl, hg2, hbw⟩ := hcut
                      go_upto_if 82 with fail
                      go_cut [11] (fun vc wx => ∃ f : Nat, vc = .float .f64 f ∧ Is .f64 f (ang3 qy (ang2 q (ang1 (absB qy) (absB q) (ang0 (stepsA (t0F (absB qy) (absB q)) 3))))) ∧ Below w.heap.size w wx)
                      case first =>
                        cases hT : ltz qy
                        · have HT := Lib.hid hT
                          rw [hYl.out] at hT
                          simp only [hT]
                          go_wp2_with fail
                          go_meet
                          exact ⟨_, rfl, ang3_no HT.out hg2, (by repeat (first | with_reducible exact bl_refl _ | with_reducible assumption | with_reducible refine bl_drewN ?_ _ | with_reducible refine bl_drew ?_ | with_reducible refine bl_alloc ?_ _ | with_reducible refine bl_call ?_ (by assumption)))⟩
                        · have HT := Lib.hid hT
                          rw [hYl.out] at hT
                          simp only [hT]
                          go_wp2_with fail
                          go_meet
                          exact ⟨_, rfl, ang3_yes HT.out hg2, (by repeat (first | with_reducible exact bl_refl _ | with_reducible assumption | with_reducible refine bl_drewN ?_ _ | with_reducible refine bl_drew ?_ | with_reducible refine bl_alloc ?_ _ | with_reducible refine bl_call ?_ (by assumption)))⟩
                      case rest =>
                        clear hg2 hbw
                        obtain ⟨g3, rfl, hg3, hbw⟩ := hcut
                        have hA := angleW_is hF.out hZ.out hg3
                        clear hg3
                        go_wp2_with ((with_reducible refine wpList_narrow ?_); refine ⟨_, ⟨rfl, rfl, by rw [Try.underlying25]; rfl, Try.underlying22⟩, angle_ov' hlY hlX hA, ?_⟩; intro s m hs)
                        go_ret
                        exact ⟨_, angle_is hqY.out hqX.out hA hs, rfl, (by repeat (first | with_reducible exact bl_refl _ | with_reducible assumption | with_reducible refine bl_drewN ?_ _ | with_reducible refine bl_drew ?_ | with_reducible refine bl_alloc ?_ _ | with_reducible refine bl_call ?_ (by assumption)))⟩
      · have HZ := Lib.hid (angle_zero hF.out hzx hzy)
        go_wp2_with fail
        go_ret
        exact ⟨_, HZ.out, rfl, (by repeat (first | with_reducible exact bl_refl _ | with_reducible assumption | with_reducible refine bl_drewN ?_ _ | with_reducible refine bl_drew ?_ | with_reducible refine bl_alloc ?_ _ | with_reducible refine bl_call ?_ (by assumption)))⟩
theorem l01Angle_any (y x : Nat) (w : World) : Calls Try.prog 44 #[.float .f32 y, .float .f32 x] w (FB w .f32 (angleF y x)) := by
  go_enter Try.func44, Try.ntmps44
  go_upto_region 99 with (first | ((with_reducible refine wpList_widen ?_); refine ⟨_, ⟨rfl, rfl, by rw [Try.underlying22]; rfl, Try.underlying25⟩, ?_⟩; intro q n hq))
  rename_i qy ny hqy K0 a0
  have hlY := (lt64 _).1 hqy.lt
  have hlX := (lt64 _).1 hq.lt
  have hqY := Lib.hid hqy
  have hqX := Lib.hid hq
  clear hqy hq
  refine (l01AngleWide_any _ _ hlY hlX _).mono ?_
  rintro e w1 ⟨r, hr, rfl, hb⟩
  go_wp2_with (go_at_call 48; refine (l01Narrow_any _ (angle_ov' hlY hlX hr) _).mono ?_; rintro e w' ⟨s, m, hs, rfl, rfl⟩)
  go_ret
  exact ⟨_, angle_is hqY.out hqX.out hr hs, rfl, bl_drewN (bl_call (bl_drewN (bl_refl w) _) hb) _⟩
theorem spec_AngleTurns_any (y x : Nat) (w : World) : Calls Try.prog 24 #[.float .f32 y, .float .f32 x] w (FB w .f32 (angleF y x)) := by
  go_enter Try.func24, Try.ntmps24
  go_wp2_with (go_at_call 44; refine (l01Angle_any _ _ _).mono ?_; rintro e w' ⟨s, hs, rfl, hb⟩)
  go_ret
  exact ⟨_, hs, rfl, hb⟩
end Go.Proofs.Ytepanenjhfmoiaa
