/- The square root: what it returns, whatever the tape answers. No conditions but that bits fit their kind. -/
import Derived.Test.YtpbccoobkmahlaaRootB
import Derived.Test.YtpbccoobkmahlaaNum
namespace Go.Fl
theorem sqrt_nan {x : Nat} (h : isNan .f64 x = true) : FloatKind.f64.format.sqrt x = none := by
  obtain ⟨s, t, hd⟩ := read_nan h
  simp [Ieee.Format.sqrt, hd, Ieee.Datum.root]
theorem fsqrt_cn (x : Nat) : fsqrt (cn .f64 x) = fsqrt x := by
  cases h : isNan .f64 x
  · rw [cn_of_not h]
  · unfold fsqrt; rw [sqrt_nan h, sqrt_nan (by rw [isNan_cn, h])]
theorem fsqrt_congr {x y : Nat} (h : cn .f64 x = cn .f64 y) : fsqrt x = fsqrt y := by rw [← fsqrt_cn, h, fsqrt_cn]
theorem fnarrow_cn (x : Nat) : fnarrow (cn .f64 x) = fnarrow x := by
  cases h : isNan .f64 x
  · rw [cn_of_not h]
  · obtain ⟨s, t, hd⟩ := decode_of_isNan h
    obtain ⟨s', t', hd'⟩ := decode_of_isNan (isNan_nanW .f64)
    rw [cn_of_nan h]; unfold fnarrow; rw [hd, hd']
theorem fnarrow_congr {x y : Nat} (h : cn .f64 x = cn .f64 y) : fnarrow x = fnarrow y := by rw [← fnarrow_cn, h, fnarrow_cn]
theorem overflows_cn (x : Nat) : overflows (cn .f64 x) = overflows x := by
  cases h : isNan .f64 x
  · rw [cn_of_not h]
  · obtain ⟨s, t, hd⟩ := decode_of_isNan h
    obtain ⟨s', t', hd'⟩ := decode_of_isNan (isNan_nanW .f64)
    rw [cn_of_nan h]; unfold overflows; rw [hd, hd']
theorem overflows_congr {x y : Nat} (h : cn .f64 x = cn .f64 y) : overflows x = overflows y := by rw [← overflows_cn, h, overflows_cn]
/-- What RootNumber comes to. -/
def rootF (x : Nat) : Nat := fnarrow (fsqrt (fwiden x))
theorem root_ov {x q r : Nat} (hq : Is .f64 q (fwiden x)) (hr : Is .f64 r (fsqrt q)) : overflows r = false := by
  rw [overflows_congr hr.cn, fsqrt_congr hq.cn, sqrt_fits]
theorem root_is {x q r s : Nat} (hq : Is .f64 q (fwiden x)) (hr : Is .f64 r (fsqrt q)) (hs : Is .f32 s (fnarrow r)) : Is .f32 s (rootF x) := by
  unfold rootF
  rw [← fsqrt_congr hq.cn, ← fnarrow_congr hr.cn]; exact hs
def sqv (W : World) (x : Nat) : Nat := (FloatKind.f64.format.sqrt x).getD ((Question.nanBits .f64 x x).cut (W.tape W.drawn (.nanBits .f64 x x)))
def sqc (x : Nat) : Nat := if (FloatKind.f64.format.sqrt x).isNone then 1 else 0
theorem sqv_is (W : World) (x : Nat) : Is .f64 (sqv W x) (fsqrt x) := by
  unfold sqv fsqrt
  cases h : FloatKind.f64.format.sqrt x with
  | some r => exact Is.refl (FloatKind.f64.format.sqrt_lt h)
  | none => exact cut_nan .f64 x x _
theorem run_sqrt_entry {P : Program} (x : Nat) (W : World) : (Extern.MathSqrt.sqrt #[.float .f64 x]).run P W = .ok (.float .f64 (sqv W x)) (W.drewN (sqc x)) := by
  change Sem.run P (match FloatKind.f64.format.sqrt x with
    | some r => pure (Value.float .f64 r)
    | none => do pure (Value.float .f64 (← choose (.nanBits .f64 x x)))) W = _
  unfold sqv sqc
  cases h : FloatKind.f64.format.sqrt x with
  | some r => rfl
  | none => simp [Question.forced, World.drewN]
end Go.Fl
namespace Go.Proofs.Ytpbccoobkmahlaa
open Go.Fl Go.RowKit
theorem run_sqrt (x : Nat) (w : World) : (callFunc 118 #[.float .f64 x]).run Try.prog w = .ok (.value (.float .f64 (sqv w x))) (w.drewN (sqc x)) := by
  rw [run_callFunc_extern (e := Extern.MathSqrt.sqrt) Try.func118 (by kernel_rfl) (by kernel_rfl) (by kernel_rfl) (by kernel_rfl), run_sqrt_entry]; rfl
theorem Sqrt_any (x : Nat) (w : World) : Calls Try.prog 117 #[.float .f64 x] w (FOut w .f64 (fsqrt x)) := by
  have hs := run_sqrt x
  go_enter Try.func117, Try.ntmps117
  go_wp2
  go_ret
  exact ⟨_, _, sqv_is _ _, rfl, rfl⟩
theorem RootNumber_any (x : Nat) (w : World) : Calls Try.prog 110 #[.float .f32 x] w (FOut w .f32 (rootF x)) := by
  go_enter Try.func110, Try.ntmps110
  go_wp2_with (first | ((with_reducible refine wpList_widen ?_); refine ⟨_, ⟨rfl, rfl, by rw [Try.underlying61]; rfl, by with_reducible exact Try.underlying65⟩, ?_⟩; intro q n hq) | (go_at_call 117; refine (Sqrt_any _ _).mono ?_; rintro e w' ⟨r, n, hr, rfl, rfl⟩) | ((with_reducible refine wpList_narrow ?_); refine ⟨_, ⟨rfl, rfl, by rw [Try.underlying65]; rfl, by with_reducible exact Try.underlying61⟩, root_ov (by assumption) (by assumption), ?_⟩; intro s m hs))
  go_ret
  exact ⟨_, _, root_is hq hr hs, rfl, rfl⟩
theorem l01Narrow_any (x : Nat) (ho : overflows x = false) (w : World) : Calls Try.prog 116 #[.float .f64 x] w (FOut w .f32 (fnarrow x)) := by
  have Ho := Lib.hid ho
  clear ho
  go_enter Try.func116, Try.ntmps116
  go_wp2_with ((with_reducible refine wpList_narrow ?_); refine ⟨_, ⟨rfl, rfl, by rw [Try.underlying65]; rfl, by with_reducible exact Try.underlying61⟩, Ho.out, ?_⟩; intro s m hs)
  go_ret
  exact ⟨_, _, hs, rfl, rfl⟩
theorem l01Sqrt_any (x : Nat) (w : World) : Calls Try.prog 108 #[.float .f32 x] w (FOut w .f32 (rootF x)) := by
  go_enter Try.func108, Try.ntmps108
  go_wp2_with (first | ((with_reducible refine wpList_widen ?_); refine ⟨_, ⟨rfl, rfl, by rw [Try.underlying61]; rfl, by with_reducible exact Try.underlying65⟩, ?_⟩; intro q n hq) | (go_at_call 117; refine (Sqrt_any _ _).mono ?_; rintro e w' ⟨r, n, hr, rfl, rfl⟩) | (go_at_call 116; refine (l01Narrow_any _ (root_ov (by assumption) (by assumption)) _).mono ?_; rintro e w' ⟨s, m, hs, rfl, rfl⟩))
  go_ret
  exact ⟨_, _, root_is hq hr hs, rfl, rfl⟩
end Go.Proofs.Ytpbccoobkmahlaa
