/- Floating point for the walks of this claim: a number's bits up to the choice of a not-a-number's bits; the laws of the walk on sums, products, quotients and conversions, whatever the tape answers. No conditions. -/
import Derived.WalkKit
import Derived.WalkLawsBesides
import Derived.Deep.Draws
import Derived.Lib.Hide
import Derived.ProofKit
import Derived.OpenShut
import Derived.ShutString
import Derived.ChangeOld
import Derived.Below
import Derived.Carry
import Derived.Lib.SmallJoins
namespace Go.Fl

/-- The one word that stands here for every not-a-number. -/
def nanW : FloatKind → Nat
  | .f32 => 2143289344
  | .f64 => 9221120237041090560

def isNan (k : FloatKind) (x : Nat) : Bool := (k.decode x).isNaN

/-- The bits of a number, all not-a-numbers one. -/
def cn (k : FloatKind) (x : Nat) : Nat := if isNan k x then nanW k else x

theorem isNan_nanW (k : FloatKind) : isNan k (nanW k) = true := by cases k <;> decide +kernel

theorem decode_of_isNan {k : FloatKind} {x : Nat} (h : isNan k x = true) : ∃ s t, k.decode x = .nan s t := by
  unfold isNan at h
  cases hd : k.decode x with
  | nan s t => exact ⟨s, t, rfl⟩
  | number s m e => rw [hd] at h; cases h
  | infinity s => rw [hd] at h; cases h

theorem cn_of_nan {k : FloatKind} {x : Nat} (h : isNan k x = true) : cn k x = nanW k := by simp [cn, h]
theorem cn_of_not {k : FloatKind} {x : Nat} (h : isNan k x = false) : cn k x = x := by simp [cn, h]
theorem isNan_cn (k : FloatKind) (x : Nat) : isNan k (cn k x) = isNan k x := by
  cases h : isNan k x
  · rw [cn_of_not h, h]
  · rw [cn_of_nan h, isNan_nanW]
theorem cn_cn (k : FloatKind) (x : Nat) : cn k (cn k x) = cn k x := by
  cases h : isNan k x
  · rw [cn_of_not h, cn_of_not h]
  · rw [cn_of_nan h, cn_of_nan (isNan_nanW k)]

/-- What a sum, a difference, a product or a quotient comes to, up to a not-a-number's bits. -/
def fop (op : BinOp) (k : FloatKind) (x y : Nat) : Nat := (floatBits op k x y).getD (nanW k)
def fadd (k : FloatKind) (x y : Nat) : Nat := fop .add k x y
def fsub (k : FloatKind) (x y : Nat) : Nat := fop .sub k x y
def fmul (k : FloatKind) (x y : Nat) : Nat := fop .mul k x y
def fdiv (k : FloatKind) (x y : Nat) : Nat := fop .quo k x y

theorem sum_nan_l (s : Bool) (t : Nat) (d : Ieee.Datum) : (Ieee.Datum.nan s t).sum d = none := by cases d <;> rfl
theorem sum_nan_r (s : Bool) (t : Nat) (d : Ieee.Datum) : d.sum (.nan s t) = none := by cases d <;> rfl
theorem product_nan_l (s : Bool) (t : Nat) (d : Ieee.Datum) : (Ieee.Datum.nan s t).product d = none := by cases d <;> rfl
theorem product_nan_r (s : Bool) (t : Nat) (d : Ieee.Datum) : d.product (.nan s t) = none := by cases d <;> rfl
theorem quotient_nan_l (n : Nat) (s : Bool) (t : Nat) (d : Ieee.Datum) : (Ieee.Datum.nan s t).quotient n d = none := by cases d <;> rfl
theorem quotient_nan_r (n : Nat) (s : Bool) (t : Nat) (d : Ieee.Datum) : d.quotient n (.nan s t) = none := by cases d <;> rfl
theorem order_nan_l (s : Bool) (t : Nat) (d : Ieee.Datum) : (Ieee.Datum.nan s t).order d = none := by cases d <;> rfl
theorem order_nan_r (s : Bool) (t : Nat) (d : Ieee.Datum) : d.order (.nan s t) = none := by cases d <;> rfl

theorem read_nan {k : FloatKind} {x : Nat} (h : isNan k x = true) : ∃ s t, k.format.read x = .nan s t := decode_of_isNan h

theorem floatBits_nan_l (op : BinOp) {k : FloatKind} {x : Nat} (y : Nat) (h : isNan k x = true) : floatBits op k x y = none := by
  obtain ⟨s, t, hd⟩ := read_nan h
  unfold floatBits
  split <;> simp [Ieee.Format.add, Ieee.Format.sub, Ieee.Format.mul, Ieee.Format.div, hd, sum_nan_l, product_nan_l, quotient_nan_l]

theorem floatBits_nan_r (op : BinOp) {k : FloatKind} (x : Nat) {y : Nat} (h : isNan k y = true) : floatBits op k x y = none := by
  obtain ⟨s, t, hd⟩ := read_nan h
  unfold floatBits
  split <;> simp [Ieee.Format.add, Ieee.Format.sub, Ieee.Format.mul, Ieee.Format.div, hd, Ieee.Datum.opposite, sum_nan_r, product_nan_r, quotient_nan_r]

theorem floatBits_cn_l (op : BinOp) (k : FloatKind) (x y : Nat) : floatBits op k (cn k x) y = floatBits op k x y := by
  cases h : isNan k x
  · rw [cn_of_not h]
  · rw [floatBits_nan_l op y h, floatBits_nan_l op y (by rw [isNan_cn, h])]
theorem floatBits_cn_r (op : BinOp) (k : FloatKind) (x y : Nat) : floatBits op k x (cn k y) = floatBits op k x y := by
  cases h : isNan k y
  · rw [cn_of_not h]
  · rw [floatBits_nan_r op x h, floatBits_nan_r op x (by rw [isNan_cn, h])]
theorem fop_cn_l (op : BinOp) (k : FloatKind) (x y : Nat) : fop op k (cn k x) y = fop op k x y := by unfold fop; rw [floatBits_cn_l]
theorem fop_cn_r (op : BinOp) (k : FloatKind) (x y : Nat) : fop op k x (cn k y) = fop op k x y := by unfold fop; rw [floatBits_cn_r]

/-- How two numbers stand: not-a-numbers do not matter. -/
theorem order_nan_left {k : FloatKind} {x : Nat} (y : Nat) (h : isNan k x = true) : k.format.order x y = none := by
  obtain ⟨s, t, hd⟩ := read_nan h
  simp [Ieee.Format.order, hd, order_nan_l]
theorem order_nan_right {k : FloatKind} (x : Nat) {y : Nat} (h : isNan k y = true) : k.format.order x y = none := by
  obtain ⟨s, t, hd⟩ := read_nan h
  simp [Ieee.Format.order, hd, order_nan_r]
theorem order_cn_l (k : FloatKind) (x y : Nat) : k.format.order (cn k x) y = k.format.order x y := by
  cases h : isNan k x
  · rw [cn_of_not h]
  · rw [order_nan_left y h, order_nan_left y (by rw [isNan_cn, h])]
theorem order_cn_r (k : FloatKind) (x y : Nat) : k.format.order x (cn k y) = k.format.order x y := by
  cases h : isNan k y
  · rw [cn_of_not h]
  · rw [order_nan_right x h, order_nan_right x (by rw [isNan_cn, h])]

/-- 'r' are bits of the kind, and up to a not-a-number's bits those of 'v'. -/
def Is (k : FloatKind) (r v : Nat) : Prop := r < 2 ^ k.format.width ∧ cn k r = cn k v
theorem Is.lt {k : FloatKind} {r v : Nat} (h : Is k r v) : r < 2 ^ k.format.width := h.1
theorem Is.cn {k : FloatKind} {r v : Nat} (h : Is k r v) : cn k r = cn k v := h.2
theorem Is.refl {k : FloatKind} {r : Nat} (h : r < 2 ^ k.format.width) : Is k r r := ⟨h, rfl⟩

theorem fop_congr {op : BinOp} {k : FloatKind} {x x' y y' : Nat} (h : cn k x = cn k x') (h' : cn k y = cn k y') : fop op k x y = fop op k x' y' := by
  rw [← fop_cn_l, ← fop_cn_r, h, h', fop_cn_r, fop_cn_l]
theorem order_congr {k : FloatKind} {x x' y y' : Nat} (h : cn k x = cn k x') (h' : cn k y = cn k y') : k.format.order x y = k.format.order x' y' := by
  rw [← order_cn_l, ← order_cn_r, h, h', order_cn_r, order_cn_l]

/-- What a word of 32 bits stands for, its numbers written out. -/
theorem read32 (x : Nat) : FloatKind.f32.decode x = if x % 2147483648 < 8388608 then .number (x / 2147483648 % 2 == 1) (x % 2147483648) (-149)
    else if x % 2147483648 < 2139095040 then .number (x / 2147483648 % 2 == 1) (8388608 + x % 2147483648 % 8388608) (-149 + (x % 2147483648 / 8388608 - 1 : Nat))
    else if x % 2147483648 = 2139095040 then .infinity (x / 2147483648 % 2 == 1) else .nan (x / 2147483648 % 2 == 1) (x % 2147483648 - 2139095040) := by kernel_rfl
/-- What a word of 64 bits stands for, its numbers written out. -/
theorem read64 (x : Nat) : FloatKind.f64.decode x = if x % 9223372036854775808 < 4503599627370496 then .number (x / 9223372036854775808 % 2 == 1) (x % 9223372036854775808) (-1074)
    else if x % 9223372036854775808 < 9218868437227405312 then .number (x / 9223372036854775808 % 2 == 1) (4503599627370496 + x % 9223372036854775808 % 4503599627370496) (-1074 + (x % 9223372036854775808 / 4503599627370496 - 1 : Nat))
    else if x % 9223372036854775808 = 9218868437227405312 then .infinity (x / 9223372036854775808 % 2 == 1) else .nan (x / 9223372036854775808 % 2 == 1) (x % 9223372036854775808 - 9218868437227405312) := by kernel_rfl

/-- A word whose rung lies behind infinity is a not-a-number. -/
theorem isNan32 (x : Nat) : isNan .f32 x = decide (2139095040 < x % 2147483648) := by
  unfold isNan
  rw [read32]
  by_cases h1 : x % 2147483648 < 8388608
  · rw [if_pos h1]; simp [Ieee.Datum.isNaN]; omega
  · rw [if_neg h1]
    by_cases h2 : x % 2147483648 < 2139095040
    · rw [if_pos h2]; simp [Ieee.Datum.isNaN]; omega
    · rw [if_neg h2]
      by_cases h3 : x % 2147483648 = 2139095040
      · rw [if_pos h3]; simp [Ieee.Datum.isNaN]; omega
      · rw [if_neg h3]; simp [Ieee.Datum.isNaN]; omega
theorem isNan64 (x : Nat) : isNan .f64 x = decide (9218868437227405312 < x % 9223372036854775808) := by
  unfold isNan
  rw [read64]
  by_cases h1 : x % 9223372036854775808 < 4503599627370496
  · rw [if_pos h1]; simp [Ieee.Datum.isNaN]; omega
  · rw [if_neg h1]
    by_cases h2 : x % 9223372036854775808 < 9218868437227405312
    · rw [if_pos h2]; simp [Ieee.Datum.isNaN]; omega
    · rw [if_neg h2]
      by_cases h3 : x % 9223372036854775808 = 9218868437227405312
      · rw [if_pos h3]; simp [Ieee.Datum.isNaN]; omega
      · rw [if_neg h3]; simp [Ieee.Datum.isNaN]; omega

/-- What the tape answers where a not-a-number comes out: bits of one. -/
theorem cut_nan32 (x y t : Nat) : (Question.nanBits .f32 x y).cut t < 4294967296 ∧ isNan .f32 ((Question.nanBits .f32 x y).cut t) = true := by
  have e : (Question.nanBits .f32 x y).cut t = (t % 2) * 2147483648 + 2139095040 + 1 + (t / 2) % 8388607 := rfl
  have h2 : t % 2 < 2 := Nat.mod_lt _ (by omega)
  have h3 : (t / 2) % 8388607 < 8388607 := Nat.mod_lt _ (by omega)
  rw [e, isNan32]
  generalize t % 2 = a at *
  generalize (t / 2) % 8388607 = c at *
  exact ⟨by omega, by simp only [decide_eq_true_eq]; omega⟩
theorem cut_nan64 (x y t : Nat) : (Question.nanBits .f64 x y).cut t < 18446744073709551616 ∧ isNan .f64 ((Question.nanBits .f64 x y).cut t) = true := by
  have e : (Question.nanBits .f64 x y).cut t = (t % 2) * 9223372036854775808 + 9218868437227405312 + 1 + (t / 2) % 4503599627370495 := rfl
  have h2 : t % 2 < 2 := Nat.mod_lt _ (by omega)
  have h3 : (t / 2) % 4503599627370495 < 4503599627370495 := Nat.mod_lt _ (by omega)
  rw [e, isNan64]
  generalize t % 2 = a at *
  generalize (t / 2) % 4503599627370495 = c at *
  exact ⟨by omega, by simp only [decide_eq_true_eq]; omega⟩
theorem cut_conv32 (x t : Nat) : (Question.nanConv .f32 x).cut t < 4294967296 ∧ isNan .f32 ((Question.nanConv .f32 x).cut t) = true := cut_nan32 x x t
theorem cut_conv64 (x t : Nat) : (Question.nanConv .f64 x).cut t < 18446744073709551616 ∧ isNan .f64 ((Question.nanConv .f64 x).cut t) = true := cut_nan64 x x t
theorem width32 : FloatKind.f32.format.width = 32 := rfl
theorem width64 : FloatKind.f64.format.width = 64 := rfl
theorem nanW_lt (k : FloatKind) : nanW k < 2 ^ k.format.width := by cases k <;> decide
theorem is_nan {k : FloatKind} {r v : Nat} (h : r < 2 ^ k.format.width) (hr : isNan k r = true) (hv : isNan k v = true) : Is k r v := ⟨h, by rw [cn_of_nan hr, cn_of_nan hv]⟩

theorem cut_nan (k : FloatKind) (x y t : Nat) : Is k ((Question.nanBits k x y).cut t) (nanW k) := by
  cases k
  · exact is_nan (cut_nan32 x y t).1 (cut_nan32 x y t).2 (isNan_nanW _)
  · exact is_nan (cut_nan64 x y t).1 (cut_nan64 x y t).2 (isNan_nanW _)
theorem cut_conv (k : FloatKind) (x t : Nat) : Is k ((Question.nanConv k x).cut t) (nanW k) := by
  cases k
  · exact is_nan (cut_conv32 x t).1 (cut_conv32 x t).2 (isNan_nanW _)
  · exact is_nan (cut_conv64 x t).1 (cut_conv64 x t).2 (isNan_nanW _)

theorem lt32 (b : Nat) : b < 2 ^ FloatKind.f32.format.width ↔ b < 4294967296 := Iff.rfl
theorem lt64 (b : Nat) : b < 2 ^ FloatKind.f64.format.width ↔ b < 18446744073709551616 := Iff.rfl
theorem lt_of_wf {k : FloatKind} {b : Nat} (h : (Lit.float k b).wf = true) : b < 2 ^ k.format.width := by
  cases k
  · rw [lt32]; simpa [Lit.wf] using h
  · rw [lt64]; simpa [Lit.wf] using h

/-- An operation of arithmetic. -/
def isArith : BinOp → Bool
  | .add | .sub | .mul | .quo => true
  | _ => false

theorem run_fop {P : Program} {op : BinOp} (hop : isArith op = true) (t : TypeId) (k : FloatKind) (x y : Nat) (w : World) :
    ∃ r n, (binOp op t (.float k x) (.float k y)).run P w = .ok (.float k r) (w.drewN n) ∧ Is k r (fop op k x y) := by
  cases h : floatBits op k x y with
  | some r => exact ⟨r, 0, run_float_arith w op t k x y r h, by unfold fop; rw [h]; exact Is.refl (lt_of_wf (floatBits_wf h))⟩
  | none =>
    refine ⟨(Question.nanBits k x y).cut (w.tape w.drawn (.nanBits k x y)), 1, ?_, by unfold fop; rw [h]; exact cut_nan ..⟩
    unfold floatBits at h
    cases op <;> first | (cases hop; done) | skip
    all_goals simp only at h
    all_goals simp [binOp, Op.floatArith, h, Question.forced, World.drewN]

/-- A sum, a difference, a product, a quotient as an equation: its bits in the world 'W', and how many answers are drawn. -/
def fv (W : World) (op : BinOp) (k : FloatKind) (x y : Nat) : Nat := (floatBits op k x y).getD ((Question.nanBits k x y).cut (W.tape W.drawn (.nanBits k x y)))
def fc (op : BinOp) (k : FloatKind) (x y : Nat) : Nat := if (floatBits op k x y).isNone then 1 else 0
theorem fv_is (W : World) (op : BinOp) (k : FloatKind) (x y : Nat) : Is k (fv W op k x y) (fop op k x y) := by
  unfold fv fop
  cases h : floatBits op k x y with
  | some r => exact Is.refl (lt_of_wf (floatBits_wf h))
  | none => exact cut_nan ..
theorem run_fopv {P : Program} {op : BinOp} (hop : isArith op = true) (t : TypeId) (k : FloatKind) (x y : Nat) (W : World) :
    (binOp op t (.float k x) (.float k y)).run P W = .ok (.float k (fv W op k x y)) (W.drewN (fc op k x y)) := by
  unfold fv fc
  cases h : floatBits op k x y with
  | some r => exact run_float_arith W op t k x y r h
  | none =>
    unfold floatBits at h
    cases op <;> first | (cases hop; done) | skip
    all_goals simp only at h
    all_goals simp [binOp, Op.floatArith, h, Question.forced, World.drewN]

/-- float64(x), up to a not-a-number's bits. -/
def fwiden (x : Nat) : Nat :=
  match FloatKind.f32.decode x with
  | .nan _ _ => nanW .f64
  | d => FloatKind.f64.encode d

/-- Does the nearest float32 of a float64 lie out of range? -/
def overflows (x : Nat) : Bool :=
  match FloatKind.f64.decode x with
  | .number s m e => (FloatKind.f32.decode (FloatKind.f32.encode (.number s m e))).isInfinity
  | _ => false

/-- float32(x), up to a not-a-number's bits; where it is out of range the model asks the tape. -/
def fnarrow (x : Nat) : Nat :=
  match FloatKind.f64.decode x with
  | .nan _ _ => nanW .f32
  | d => FloatKind.f32.encode d


theorem shift_eq (a n : Nat) : a <<< n = a * 2 ^ n := Nat.shiftLeft_eq a n

/-- A number whose digits fit, rounded to a place: nothing is cut off. -/
theorem cut_zero (way : Ieee.Toward) (neg : Bool) (n : Nat) : way.cut neg n 0 = n := by
  unfold Ieee.Toward.cut
  have h : 1 <<< min 0 (n.log2 + 2) = 1 := by simp
  simp only [h, Nat.div_one, Nat.mod_one]
  cases way <;> simp

theorem nearest_fits (f : Ieee.Format) (neg : Bool) (mag : Nat) (place : Int) (hm : mag ≠ 0) (hl : mag.log2 ≤ f.fractionBits) (hp : f.leastPlace ≤ place) :
    f.nearest neg mag place = f.word neg (min ((max (place + mag.log2 - f.fractionBits) f.leastPlace - f.leastPlace).toNat * f.binade + mag * 2 ^ (place - max (place + mag.log2 - f.fractionBits) f.leastPlace).toNat) f.infRung) := by
  unfold Ieee.Format.nearest
  rw [if_neg hm]
  simp only []
  have h0 : (max (place + mag.log2 - f.fractionBits) f.leastPlace - place).toNat = 0 := by omega
  rw [h0, cut_zero, shift_eq]

theorem nearest_zero (f : Ieee.Format) (neg : Bool) (place : Int) : f.nearest neg 0 place = f.word neg 0 := by
  unfold Ieee.Format.nearest
  rw [if_pos rfl]

theorem mag_lt {m l d : Nat} (hm : m ≠ 0) (hl : m.log2 + d = l) : m * 2 ^ d < 2 ^ (l + 1) ∧ 2 ^ l ≤ m * 2 ^ d := by
  have h1 := Nat.lt_log2_self (n := m)
  have h2 := Nat.log2_self_le hm
  have hp : 0 < 2 ^ d := Nat.two_pow_pos d
  constructor
  · calc m * 2 ^ d < 2 ^ (m.log2 + 1) * 2 ^ d := Nat.mul_lt_mul_of_pos_right h1 hp
      _ = 2 ^ (l + 1) := by rw [← Nat.pow_add]; congr 1; omega
  · calc 2 ^ l = 2 ^ m.log2 * 2 ^ d := by rw [← Nat.pow_add]; congr 1; omega
      _ ≤ m * 2 ^ d := Nat.mul_le_mul_right _ h2

theorem frac64 : FloatKind.f64.format.fractionBits = 52 := rfl
theorem least64 : FloatKind.f64.format.leastPlace = -1074 := by decide
theorem binade64 : FloatKind.f64.format.binade = 4503599627370496 := by decide +kernel
theorem inf64 : FloatKind.f64.format.infRung = 9218868437227405312 := by decide +kernel
theorem word64 (neg : Bool) (r : Nat) : FloatKind.f64.format.word neg r = (if neg then 9223372036854775808 + r else r) := by
  unfold Ieee.Format.word; rw [show FloatKind.f64.format.signWeight = 9223372036854775808 from by decide +kernel]
theorem frac32 : FloatKind.f32.format.fractionBits = 23 := rfl
theorem least32 : FloatKind.f32.format.leastPlace = -149 := by decide
theorem binade32 : FloatKind.f32.format.binade = 8388608 := by decide +kernel
theorem inf32 : FloatKind.f32.format.infRung = 2139095040 := by decide +kernel
theorem word32 (neg : Bool) (r : Nat) : FloatKind.f32.format.word neg r = (if neg then 2147483648 + r else r) := by
  unfold Ieee.Format.word; rw [show FloatKind.f32.format.signWeight = 2147483648 from by decide +kernel]


set_option maxRecDepth 20000 in
theorem exact64 (s : Bool) (m : Nat) (e : Int) (hm : m ≠ 0) (hl : m.log2 ≤ 52) (he : -1074 ≤ e) (hb : e + m.log2 ≤ 1023) :
    ∃ m' e', m' ≠ 0 ∧ -1074 ≤ e' ∧ FloatKind.f64.decode (FloatKind.f64.encode (.number s m e)) = .number s m' e' ∧ m' * 2 ^ (e' + 1074).toNat = m * 2 ^ (e + 1074).toNat := by
  have hw : FloatKind.f64.encode (.number s m e) = FloatKind.f64.format.nearest s m e := rfl
  rw [hw, nearest_fits _ s m e hm (by rw [frac64]; exact hl) (by rw [least64]; exact he), frac64, least64, binade64, inf64, word64]
  by_cases hc : e + m.log2 - 52 ≤ -1074
  · have h1 : max (e + (m.log2 : Int) - (52 : Nat)) (-1074) = -1074 := by omega
    rw [h1]
    obtain ⟨d, hd⟩ := Int.eq_ofNat_of_zero_le (show 0 ≤ e - (-1074) by omega)
    have h2 : (e - (-1074)).toNat = d := by omega
    have h3 : (e + 1074).toNat = d := by omega
    have hk := (mag_lt (m := m) (d := d) hm rfl).1
    have hk2 : m * 2 ^ d < 2 ^ 53 := Nat.lt_of_lt_of_le hk (Nat.pow_le_pow_right (by omega) (by omega))
    have hk3 : m * 2 ^ d ≠ 0 := Nat.mul_ne_zero hm (Nat.ne_of_gt (Nat.two_pow_pos d))
    rw [h2, h3]
    generalize m * 2 ^ d = K at *
    have hz : ((-1074 - (-1074 : Int)).toNat) * 4503599627370496 = 0 := by decide
    rw [hz, Nat.zero_add, Nat.min_eq_left (by omega)]
    have hr : (if s = true then 9223372036854775808 + K else K) % 9223372036854775808 = K := by split <;> omega
    have hs : ((if s = true then 9223372036854775808 + K else K) / 9223372036854775808 % 2 == 1) = s := by
      cases s
      · have : K / 9223372036854775808 = 0 := by omega
        simp [this]
      · have : (9223372036854775808 + K) / 9223372036854775808 = 1 := by omega
        simp [this]
    rw [read64, hr, hs]
    by_cases h6 : K < 4503599627370496
    · rw [if_pos h6]; exact ⟨_, _, hk3, by omega, rfl, by simp⟩
    · rw [if_neg h6, if_pos (by omega)]
      refine ⟨_, _, by omega, by omega, rfl, ?_⟩
      have h7 : K / 4503599627370496 = 1 := by omega
      have h9 : 4503599627370496 + K % 4503599627370496 = K := by
        have := Nat.div_add_mod K 4503599627370496
        rw [h7, Nat.mul_one] at this
        exact this
      have h10 : ((-1074 : Int) + ((1 - 1 : Nat) : Int) + 1074).toNat = 0 := by decide
      rw [h7, h9, h10, Nat.pow_zero, Nat.mul_one]
  · obtain ⟨l, hl'⟩ : ∃ l, m.log2 = l := ⟨_, rfl⟩
    rw [hl'] at hl hb hc ⊢
    have h1 : max (e + (l : Int) - (52 : Nat)) (-1074) = e + l - 52 := by omega
    rw [h1]
    have h2 : (e - (e + (l : Int) - 52)).toNat = 52 - l := by omega
    obtain ⟨E, hE⟩ := Int.eq_ofNat_of_zero_le (show 0 ≤ e + (l : Int) - 52 - (-1074) by omega)
    have h3 : (e + (l : Int) - 52 - (-1074)).toNat = E := by omega
    rw [h2, h3]
    obtain ⟨hk1, hk2⟩ := mag_lt (m := m) (d := 52 - l) (l := 52) hm (by omega)
    have hV : (e + 1074).toNat = (52 - l) + E := by omega
    rw [hV, Nat.pow_add, ← Nat.mul_assoc]
    generalize m * 2 ^ (52 - l) = K at *
    have hEb : E ≤ 2045 := by omega
    rw [Nat.min_eq_left (by omega)]
    have hr : (if s = true then 9223372036854775808 + (E * 4503599627370496 + K) else E * 4503599627370496 + K) % 9223372036854775808 = E * 4503599627370496 + K := by split <;> omega
    have hs : ((if s = true then 9223372036854775808 + (E * 4503599627370496 + K) else E * 4503599627370496 + K) / 9223372036854775808 % 2 == 1) = s := by
      cases s
      · have : (E * 4503599627370496 + K) / 9223372036854775808 = 0 := by omega
        simp [this]
      · have : (9223372036854775808 + (E * 4503599627370496 + K)) / 9223372036854775808 = 1 := by omega
        simp [this]
    rw [read64, hr, hs, if_neg (by omega), if_pos (by omega)]
    refine ⟨_, _, by omega, by omega, rfl, ?_⟩
    have h7 : (E * 4503599627370496 + K) / 4503599627370496 = E + 1 := by omega
    have h8 : 4503599627370496 + (E * 4503599627370496 + K) % 4503599627370496 = K := by omega
    rw [h7, h8]
    congr 2; omega

/-- float64(x) is never out of range. -/
theorem widen_fits {b : Nat} {s : Bool} {m : Nat} {e : Int} (h : FloatKind.f32.decode b = .number s m e) : -149 ≤ e ∧ e + m.log2 ≤ 127 ∧ m.log2 ≤ 23 := by
  rw [read32] at h
  have key : ∀ M : Nat, ∀ E : Int, M < 16777216 → -149 ≤ E → E ≤ 104 → -149 ≤ E ∧ E + M.log2 ≤ 127 ∧ M.log2 ≤ 23 := by
    intro M E hM h1 h2
    have : M.log2 ≤ 23 := by
      by_cases h0 : M = 0
      · subst h0; decide
      · have := (Nat.log2_lt h0).2 (show M < 2 ^ 24 from hM); omega
    omega
  by_cases h1 : b % 2147483648 < 8388608
  · rw [if_pos h1] at h; cases h; exact key _ _ (by omega) (by omega) (by omega)
  · rw [if_neg h1] at h
    by_cases h2 : b % 2147483648 < 2139095040
    · rw [if_pos h2] at h; cases h; exact key _ _ (by omega) (by omega) (by omega)
    · rw [if_neg h2] at h; split at h <;> cases h

theorem encode64_zero (s : Bool) (e : Int) : FloatKind.f64.decode (FloatKind.f64.encode (.number s 0 e)) = .number s 0 (-1074) := by
  have hw : FloatKind.f64.encode (.number s 0 e) = FloatKind.f64.format.nearest s 0 e := rfl
  rw [hw, nearest_zero, word64, read64]
  cases s <;> decide

theorem widen_finite {b : Nat} {s : Bool} {m : Nat} {e : Int} (h : FloatKind.f32.decode b = .number s m e) :
    ∃ m' e', -1074 ≤ e' ∧ FloatKind.f64.decode (FloatKind.f64.encode (.number s m e)) = .number s m' e' ∧ m' * 2 ^ (e' + 1074).toNat = m * 2 ^ (e + 1074).toNat := by
  obtain ⟨h1, h2, h3⟩ := widen_fits h
  by_cases hm : m = 0
  · subst hm; exact ⟨0, -1074, by omega, encode64_zero s e, by simp⟩
  · obtain ⟨m', e', _, h5, h6, h7⟩ := exact64 s m e hm (by omega) (by omega) (by omega)
    exact ⟨m', e', h5, h6, h7⟩

theorem encode_lt (k : FloatKind) (d : Ieee.Datum) : k.encode d < 2 ^ k.format.width := k.format.write_lt d

theorem run_widen {P : Program} (src dst : TypeId) (b : Nat) (w : World) (hs : (P.underlying src).isSome = true) (hd : P.underlying dst = some (.float .f64)) :
    ∃ r n, (convert src dst (.float .f32 b)).run P w = .ok (.float .f64 r) (w.drewN n) ∧ Is .f64 r (fwiden b) := by
  obtain ⟨u, hs'⟩ := Option.isSome_iff_exists.1 hs
  unfold fwiden
  cases h : FloatKind.f32.decode b with
  | nan s t =>
    refine ⟨(Question.nanConv .f64 b).cut (w.tape w.drawn (.nanConv .f64 b)), 1, ?_, cut_conv ..⟩
    cases u <;> simp [convert, run_underlying hs', run_underlying hd, Conv.floatToFloat, h, Question.forced, World.drewN]
  | infinity s => exact ⟨_, 0, run_convert_float_float w src dst .f32 .f64 b _ hs hd (by simp [floatToFloatBits, h]), Is.refl (encode_lt _ _)⟩
  | number s m e =>
    refine ⟨FloatKind.f64.encode (.number s m e), 0, ?_, Is.refl (encode_lt _ _)⟩
    by_cases ho : (FloatKind.f64.decode (FloatKind.f64.encode (.number s m e))).isInfinity = true
    · obtain ⟨m', e', _, hd', _⟩ := widen_finite h
      rw [hd'] at ho; cases ho
    · exact run_convert_float_float w src dst .f32 .f64 b _ hs hd (by simp [floatToFloatBits, h, ho])

/-- float64(x) as an equation: the bits in the world 'W', and how many answers are drawn. -/
def wv (W : World) (x : Nat) : Nat :=
  match FloatKind.f32.decode x with
  | .nan _ _ => (Question.nanConv .f64 x).cut (W.tape W.drawn (.nanConv .f64 x))
  | d => FloatKind.f64.encode d
def wn (x : Nat) : Nat := if isNan .f32 x then 1 else 0
theorem wv_is (W : World) (x : Nat) : Is .f64 (wv W x) (fwiden x) := by
  unfold wv fwiden
  cases h : FloatKind.f32.decode x with
  | nan s t => exact cut_conv ..
  | infinity s => exact Is.refl (encode_lt _ _)
  | number s m e => exact Is.refl (encode_lt _ _)
theorem run_wide {P : Program} (src dst : TypeId) (x : Nat) (W : World) (hs : (P.underlying src).isSome = true) (hd : P.underlying dst = some (.float .f64)) :
    (convert src dst (.float .f32 x)).run P W = .ok (.float .f64 (wv W x)) (W.drewN (wn x)) := by
  obtain ⟨u, hs'⟩ := Option.isSome_iff_exists.1 hs
  unfold wv wn isNan
  cases h : FloatKind.f32.decode x with
  | nan s t => cases u <;> simp [convert, run_underlying hs', run_underlying hd, Conv.floatToFloat, h, Question.forced, World.drewN, Ieee.Datum.isNaN]
  | infinity s => rw [run_convert_float_float W src dst .f32 .f64 x _ hs hd (by simp [floatToFloatBits, h]; rfl)]; rfl
  | number s m e =>
    have ho : ¬ (FloatKind.f64.decode (FloatKind.f64.encode (.number s m e))).isInfinity = true := by
      obtain ⟨m', e', _, hd', _⟩ := widen_finite h
      rw [hd']; exact Bool.false_ne_true
    rw [run_convert_float_float W src dst .f32 .f64 x _ hs hd (by simp [floatToFloatBits, h, ho]; rfl)]; rfl

theorem run_narrow {P : Program} (src dst : TypeId) (b : Nat) (w : World) (hs : (P.underlying src).isSome = true) (hd : P.underlying dst = some (.float .f32)) (ho : overflows b = false) :
    ∃ r n, (convert src dst (.float .f64 b)).run P w = .ok (.float .f32 r) (w.drewN n) ∧ Is .f32 r (fnarrow b) := by
  obtain ⟨u, hs'⟩ := Option.isSome_iff_exists.1 hs
  unfold fnarrow
  unfold overflows at ho
  cases h : FloatKind.f64.decode b with
  | nan s t =>
    refine ⟨(Question.nanConv .f32 b).cut (w.tape w.drawn (.nanConv .f32 b)), 1, ?_, cut_conv ..⟩
    cases u <;> simp [convert, run_underlying hs', run_underlying hd, Conv.floatToFloat, h, Question.forced, World.drewN]
  | infinity s => exact ⟨_, 0, run_convert_float_float w src dst .f64 .f32 b _ hs hd (by simp [floatToFloatBits, h]), Is.refl (encode_lt _ _)⟩
  | number s m e =>
    rw [h] at ho
    exact ⟨_, 0, run_convert_float_float w src dst .f64 .f32 b _ hs hd (by simp [floatToFloatBits, h, ho]), Is.refl (encode_lt _ _)⟩

@[go_sem] theorem run_convert_same {P : Program} (src dst : TypeId) (k : FloatKind) (b : Nat) (w : World) (hs : (P.underlying src).isSome = true) (hd : P.underlying dst = some (.float k)) :
    (convert src dst (.float k b)).run P w = .ok (.float k b) w :=
  run_convert_float_float w src dst k k b b hs hd (by simp [floatToFloatBits])

@[go_sem] theorem unary_neg_float (k : FloatKind) (b : Nat) : Op.unary .neg (.float k b) = pure (.float k (Op.negFloat k b)) := rfl
/-- A store of a float into a cell. -/
@[go_sem] theorem run_store_float (P : Program) (w : World) (a : Addr) (m : Mode) (k : FloatKind) (b : Nat) : (store a (.float k b) m).run P w = stored P w a (.float k b) m := run_store P w a _ m rfl

section
variable {P : Program} {ops : Array Oper} {Q : Exit → Act → World → Prop} {a : Act} {w : World} {rest : List Oper} {dst : Option Tmp} {x y : Operand} {t yt ty : TypeId} {pos : String} {after : Array Edge} {guard : Option (Nat × Bool)}

theorem wpList_value {o : Oper} {v : Value} {w' : World} (hw : Region.wanted o (yielded ops a.tmps) = true) (hr : (execOp a.eval o).run P w = .ok (.value v) w')
    (h : wpList P ops Q rest (a.put o.dst v) w') : wpList P ops Q (o :: rest) a w :=
  wpList_step fun K hK => by
    rw [if_pos hw]; unfold Oper.wp; rw [hr]; exact hK _ _ h

/-- A SUM, A DIFFERENCE, A PRODUCT, A QUOTIENT OF TWO FLOATS, WHATEVER THE TAPE ANSWERS. -/
theorem wpList_fop {op : BinOp} (h : ∃ k bx b_y, (isArith op = true ∧ Region.wanted ⟨dst, .binOp op t x y yt, ty, pos, after, guard⟩ (yielded ops a.tmps) = true ∧ a.eval x = .float k bx ∧ a.eval y = .float k b_y) ∧
      ∀ r n, Is k r (fop op k bx b_y) → wpList P ops Q rest (a.put dst (.float k r)) (w.drewN n)) :
    wpList P ops Q (⟨dst, .binOp op t x y yt, ty, pos, after, guard⟩ :: rest) a w := by
  obtain ⟨k, bx, b_y, ⟨hop, hw, hx, hy⟩, h⟩ := h
  obtain ⟨r, n, hr, hi⟩ := run_fop (P := P) hop t k bx b_y w
  refine wpList_value (v := .float k r) (w' := w.drewN n) hw ?_ (h r n hi)
  have hg : (eqGuard op t x y (.float k bx) (.float k b_y)).run P w = .ok () w := by
    cases op <;> first | (cases hop; done) | rfl
  simp only [execOp, hx, hy]
  simp only [Sem.run_bind, hg, Result.andThen_ok, hr, Sem.run_pure]

/-- float64(x) of a float32. -/
theorem wpList_widen (h : ∃ bx, (Region.wanted ⟨dst, .convert t yt x, ty, pos, after, guard⟩ (yielded ops a.tmps) = true ∧ a.eval x = .float .f32 bx ∧ (P.underlying t).isSome = true ∧ P.underlying yt = some (.float .f64)) ∧
      ∀ r n, Is .f64 r (fwiden bx) → wpList P ops Q rest (a.put dst (.float .f64 r)) (w.drewN n)) :
    wpList P ops Q (⟨dst, .convert t yt x, ty, pos, after, guard⟩ :: rest) a w := by
  obtain ⟨bx, ⟨hw, hx, hs, hd⟩, h⟩ := h
  obtain ⟨r, n, hr, hi⟩ := run_widen (P := P) t yt bx w hs hd
  refine wpList_value (v := .float .f64 r) (w' := w.drewN n) hw ?_ (h r n hi)
  simp only [execOp, hx, Sem.run_bind, hr, Result.andThen_ok, Sem.run_pure]

/-- float32(x) of a float64 whose nearest float32 is in range. -/
theorem wpList_narrow (h : ∃ bx, (Region.wanted ⟨dst, .convert t yt x, ty, pos, after, guard⟩ (yielded ops a.tmps) = true ∧ a.eval x = .float .f64 bx ∧ (P.underlying t).isSome = true ∧ P.underlying yt = some (.float .f32)) ∧ overflows bx = false ∧
      ∀ r n, Is .f32 r (fnarrow bx) → wpList P ops Q rest (a.put dst (.float .f32 r)) (w.drewN n)) :
    wpList P ops Q (⟨dst, .convert t yt x, ty, pos, after, guard⟩ :: rest) a w := by
  obtain ⟨bx, ⟨hw, hx, hs, hd⟩, ho, h⟩ := h
  obtain ⟨r, n, hr, hi⟩ := run_narrow (P := P) t yt bx w hs hd ho
  refine wpList_value (v := .float .f32 r) (w' := w.drewN n) hw ?_ (h r n hi)
  simp only [execOp, hx, Sem.run_bind, hr, Result.andThen_ok, Sem.run_pure]
end


/-! ### How a number stands to itself -/
theorem order_self {k : FloatKind} {x : Nat} (h : isNan k x = false) : k.format.order x x = some .eq := by
  unfold isNan FloatKind.decode at h
  unfold Ieee.Format.order
  cases hd : k.format.read x with
  | nan s t => rw [hd] at h; cases h
  | infinity s => simp [Ieee.Datum.order]
  | number s m e => simp [Ieee.Datum.order]
theorem order_self_nan {k : FloatKind} {x : Nat} (h : isNan k x = true) : k.format.order x x = none := order_nan_left x h

/-! ### The ends of contracts -/
def BOut (w : World) (b : Bool) : Ending → World → Prop := fun e w' => e = .returned (.bool b) ∧ ∃ n, w' = w.drewN n
def FOut (w : World) (k : FloatKind) (v : Nat) : Ending → World → Prop := fun e w' => ∃ r n, Is k r v ∧ e = .returned (.float k r) ∧ w' = w.drewN n
def IOut (w : World) (k : IntKind) (v : Int) : Ending → World → Prop := fun e w' => e = .returned (.int k v) ∧ ∃ n, w' = w.drewN n
theorem ret_bool {a b : Bool} (h : a = b) : Ending.returned (.bool a) = .returned (.bool b) := by rw [h]
theorem ret_int {k : IntKind} {a b : Int} (h : a = b) : Ending.returned (.int k a) = .returned (.int k b) := by rw [h]
theorem bout {w w' : World} {a b : Bool} {n : Nat} (h : a = b) (hw : w' = w.drewN n) : BOut w b (.returned (.bool a)) w' := ⟨ret_bool h, n, hw⟩
theorem Below.drewN {B : Nat} {a w : World} (h : RowKit.Below B a w) (n : Nat) : RowKit.Below B a (w.drewN n) := ⟨h.os, h.tape, h.output, h.size, h.block⟩
theorem BOut.below {w : World} {b : Bool} {e : Ending} {w' : World} (h : BOut w b e w') : e = .returned (.bool b) ∧ RowKit.Below w.heap.size w w' := by
  obtain ⟨h1, n, rfl⟩ := h
  exact ⟨h1, Below.drewN (RowKit.Below.refl _ _) n⟩
theorem eq_of_cn {k : FloatKind} {a b : Nat} (h : cn k a = cn k b) (ha : isNan k a = false) : a = b := by
  have hb : isNan k b = false := by rw [← isNan_cn, ← h, isNan_cn, ha]
  rw [cn_of_not ha, cn_of_not hb] at h; exact h
theorem isNan_of_cn {k : FloatKind} {a b : Nat} (h : cn k a = cn k b) : isNan k a = isNan k b := by rw [← isNan_cn, h, isNan_cn]

/-- Is a number finite, as Go asks it: what is taken from itself is zero. -/
def isFin (x : Nat) : Bool := FloatKind.f32.format.order (fop .sub .f32 x x) 0 == some .eq
/-- The bits of a number as an integer. -/
def bitsI (x : Nat) : Int := (cn .f32 x : Nat)

theorem fwiden_cn (x : Nat) : fwiden (cn .f32 x) = fwiden x := by
  cases h : isNan .f32 x
  · rw [cn_of_not h]
  · obtain ⟨s, t, hd⟩ := decode_of_isNan h
    obtain ⟨s', t', hd'⟩ := decode_of_isNan (isNan_nanW .f32)
    rw [cn_of_nan h]; unfold fwiden; rw [hd, hd']
theorem fwiden_congr {x y : Nat} (h : cn .f32 x = cn .f32 y) : fwiden x = fwiden y := by rw [← fwiden_cn, h, fwiden_cn]


/-! ### New blocks, draws and calls: below the old heap nothing turns -/
theorem bl_refl (w : World) : RowKit.Below w.heap.size w w := RowKit.Below.refl _ _
theorem bl_alloc {w w' : World} (h : RowKit.Below w.heap.size w w') (o : Obj) : RowKit.Below w.heap.size w (w'.alloc o) := h.alloc h.size o
theorem bl_drewN {w w' : World} (h : RowKit.Below w.heap.size w w') (n : Nat) : RowKit.Below w.heap.size w (w'.drewN n) := Below.drewN h n
theorem bl_drew {w w' : World} (h : RowKit.Below w.heap.size w w') : RowKit.Below w.heap.size w w'.drew := h.drew
theorem bl_call {w W w1 : World} (h : RowKit.Below w.heap.size w W) (hb : RowKit.Below W.heap.size W w1) : RowKit.Below w.heap.size w w1 := h.trans (hb.mono h.size)
theorem bl_set {w w' : World} (h : RowKit.Below w.heap.size w w') {a : Addr} (ha : w.heap.size ≤ a.block) (u : Value) : RowKit.Below w.heap.size w (w'.setCell a u) := h.setCell ha u
/-- A call's answer that is a float, beside new memory. -/
def FB (w : World) (k : FloatKind) (v : Nat) : Ending → World → Prop := fun e w' => ∃ r, Is k r v ∧ e = .returned (.float k r) ∧ RowKit.Below w.heap.size w w'
/-- .. a vector. -/
def VB (w : World) (x y z : Nat) : Ending → World → Prop := fun e w' => ∃ r s t, Is .f32 r x ∧ Is .f32 s y ∧ Is .f32 t z ∧ e = .returned (.agg #[.float .f32 r, .float .f32 s, .float .f32 t]) ∧ RowKit.Below w.heap.size w w'
def BB (w : World) (b : Bool) : Ending → World → Prop := fun e w' => e = .returned (.bool b) ∧ RowKit.Below w.heap.size w w'
theorem BOut.bb {w : World} {b : Bool} {e : Ending} {w' : World} (h : BOut w b e w') : BB w b e w' := h.below
theorem FOut.fb {w : World} {k : FloatKind} {v : Nat} {e : Ending} {w' : World} (h : FOut w k v e w') : FB w k v e w' := by
  obtain ⟨r, n, h1, h2, rfl⟩ := h
  exact ⟨r, h1, h2, bl_drewN (bl_refl _) n⟩
theorem Is.trans {k : FloatKind} {r v u : Nat} (h : Is k r v) (h' : Fl.cn k v = Fl.cn k u) : Is k r u := ⟨h.1, h.2.trans h'⟩
theorem Is.op {k : FloatKind} {op : BinOp} {r x y x' y' : Nat} (h : Is k r (fop op k x y)) (hx : Fl.cn k x = Fl.cn k x') (hy : Fl.cn k y = Fl.cn k y') : Is k r (fop op k x' y') := by
  rw [← fop_congr hx hy]; exact h
theorem Is.op' {k : FloatKind} {op : BinOp} {r x y x' y' : Nat} (h : Is k r (fop op k x y)) (hx : Is k x x') (hy : Is k y y') : Is k r (fop op k x' y') := h.op hx.cn hy.cn
def fA (x y : Nat) : Nat := fop .add .f32 x y
def fS (x y : Nat) : Nat := fop .sub .f32 x y
def fM (x y : Nat) : Nat := fop .mul .f32 x y
def fQ (x y : Nat) : Nat := fop .quo .f32 x y
def innerF (ax ay az bx b_y bz : Nat) : Nat := fop .add .f32 (fop .add .f32 (fop .mul .f32 ax bx) (fop .mul .f32 ay b_y)) (fop .mul .f32 az bz)
def crossF (a b c d : Nat) : Nat := fop .sub .f32 (fop .mul .f32 a b) (fop .mul .f32 c d)

/-- Two numbers that are the same, made wide, are the same. -/
theorem wide_eq {a b q p : Nat} (hq : Is .f64 q (fwiden a)) (hp : Is .f64 p (fwiden b)) (h : cn .f32 a = cn .f32 b) : cn .f64 q = cn .f64 p := by
  rw [hq.cn, hp.cn, fwiden_congr h]
theorem Is.same {k : FloatKind} {a b v : Nat} (ha : Is k a v) (hb : Is k b v) : Fl.cn k a = Fl.cn k b := ha.2.trans hb.2.symm

/-! ### Arguments that are floats, opened -/
section
variable {H : Type} {enc : TypeId × Value → H} {P : Program} {w : World} {base : Nat} {spare : Nat → Bool} {held : Bool}
theorem trod_float {fuel : Nat} {t : TypeId} {k : FloatKind} {cs : List Value} {x : DataW H × List MemPlace} (ht : P.underlying t = some (.float k)) (h : DataW.trod enc P w base spare held fuel t cs = some x) :
    ∃ b, cs = [.float k b] ∧ x = (.lit (.float k b), []) ∧ b < 2 ^ k.format.width := by
  cases fuel with
  | zero => simp [DataW.trod] at h
  | succ n =>
    unfold DataW.trod at h
    rw [ht] at h
    split at h <;> simp_all
    exact lt_of_wf h.1.2

open Go.WideShapes Go.ChangeShapes Go.WideElems Go.Deep Go.Maps in
theorem open_vec {r : Reach} {b0 : Nat} {t : TypeId} {f0 f1 f2 : Field} {v : Value} {d : DataW H} {p : List MemPlace} (hs : P.underlying t = some (.struct #[f0, f1, f2])) (hone : oneCellFields P #[f0, f1, f2] = true) (hC : P.cellsOf t = 3)
    (hf0 : P.underlying f0.type = some (.float .f32)) (hf1 : P.underlying f1.type = some (.float .f32)) (hf2 : P.underlying f2.type = some (.float .f32))
    (hv : Value.okWide P w r b0 t v) (h : DataW.Trod enc P w base spare held t v d p) :
    ∃ x y z : Nat, v = .agg #[.float .f32 x, .float .f32 y, .float .f32 z] ∧ x < 4294967296 ∧ y < 4294967296 ∧ z < 4294967296 := by
  obtain ⟨v0, v1, v2, y0, y1, y2, n, rfl, rfl, rfl, h0, h1, h2⟩ := Joins.open_agg3 hs hone hC hv h
  obtain ⟨x, e0, _, w0⟩ := trod_float hf0 h0
  obtain ⟨y, e1, _, w1⟩ := trod_float hf1 h1
  obtain ⟨z, e2, _, w2⟩ := trod_float hf2 h2
  simp only [List.cons.injEq, and_true] at e0 e1 e2
  subst e0; subst e1; subst e2
  exact ⟨x, y, z, rfl, (lt32 x).1 w0, (lt32 y).1 w1, (lt32 z).1 w2⟩
end
end Go.Fl
