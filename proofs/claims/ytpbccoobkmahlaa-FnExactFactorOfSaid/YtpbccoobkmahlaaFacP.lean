/- How much a shape's distance can change, in plain terms. No conditions. -/
import Derived.Test.YtpbccoobkmahlaaDepS
import Derived.Test.YtpbccoobkmahlaaLong
namespace Go.Proofs.Ytpbccoobkmahlaa
open Go.Fl Go.RowKit

def oneF : Nat := 1065353216
def grF (a b : Nat) : Nat := if (FloatKind.f32.format.order b a == some .gt) = true then b else a
theorem grF_is {a b a' b' : Nat} (ha : Is .f32 a a') (hb : Is .f32 b b') : Is .f32 (grF a b) (grF a' b') := by
  unfold grF
  rw [order_congr hb.cn ha.cn]
  split
  · exact hb
  · exact ha
theorem quo_some (x : Nat) (h : isNan .f32 x = false) : ∃ r, floatBits .quo .f32 1065353216 x = some r := by
  have h1 : FloatKind.f32.format.read 1065353216 = .number false 8388608 (-23) := by decide +kernel
  show ∃ r, ((FloatKind.f32.format.read 1065353216).quotient (FloatKind.f32.format.fractionBits + 2) (FloatKind.f32.format.read x)).map FloatKind.f32.format.write = some r
  rw [h1]
  have h' : (FloatKind.f32.format.read x).isNaN = false := h
  cases hd : FloatKind.f32.format.read x with
  | nan s t => rw [hd] at h'; cases h'
  | infinity s => exact ⟨_, rfl⟩
  | number t n j =>
    by_cases hn : n = 0
    · subst hn; exact ⟨FloatKind.f32.format.write (.infinity (false ^^ t)), by simp [Ieee.Datum.quotient]⟩
    · exact ⟨_, by simp only [Ieee.Datum.quotient, if_neg hn]; rfl⟩
theorem fin_nan {x : Nat} (h : isFin x = true) : isNan .f32 x = false := by
  cases hx : isNan .f32 x
  · rfl
  · exfalso
    unfold isFin at h
    have e : fop .sub .f32 x x = nanW .f32 := by unfold fop; rw [floatBits_nan_l _ _ hx]; rfl
    rw [e, order_nan_left 0 (isNan_nanW .f32)] at h
    simp at h
theorem one_over (x : Nat) (h : isFin x = true) : floatBits .quo .f32 1065353216 x = some (fop .quo .f32 oneF x) := by
  obtain ⟨r, hr⟩ := quo_some x (fin_nan h)
  have : fop .quo .f32 oneF x = r := by unfold fop oneF; rw [hr]; rfl
  rw [this]; exact hr
def stF (xs : List Nat) : Nat := grF (grF (fop .quo .f32 oneF (xs.getD 0 0)) (fop .quo .f32 oneF (xs.getD 1 0))) (fop .quo .f32 oneF (xs.getD 2 0))
def facK (D : List Nat) (d : Nd) : Nat :=
  if d.k = 4 then longF (d.xs.getD 0 0) (d.xs.getD 1 0) (d.xs.getD 2 0)
  else if kidsK d.k = 2 then grF (D.getD d.a.toNat 0) (D.getD d.b.toNat 0)
  else if d.k = 11 then fop .mul .f32 (D.getD d.a.toNat 0) (stF d.xs)
  else if kidsK d.k = 1 then D.getD d.a.toNat 0
  else oneF
def facs (L : List Nd) : Nat → List Nat
  | 0 => []
  | k + 1 => facs L k ++ [facK (facs L k) (at_ L k)]
theorem facs_len (L : List Nd) : ∀ k, (facs L k).length = k
  | 0 => rfl
  | k + 1 => by simp [facs, facs_len L k]
def Fls (ys D : List Nat) : Prop := ys.length = D.length ∧ ∀ i, i < ys.length → Is .f32 (ys.getD i 0) (D.getD i 0)
theorem Fls.nil : Fls [] [] := ⟨rfl, fun i h => by simp at h⟩
theorem Fls.snoc {ys D : List Nat} {r v : Nat} (h : Fls ys D) (hr : Is .f32 r v) : Fls (ys ++ [r]) (D ++ [v]) := by
  refine ⟨by simp [h.1], fun i hi => ?_⟩
  by_cases hl : i < ys.length
  · have := h.2 i hl
    rwa [List.getD, List.getD, List.getElem?_append_left hl, List.getElem?_append_left (by rw [← h.1]; exact hl)]
  · have e : i = ys.length := by simp at hi; omega
    rw [List.getD, List.getD, List.getElem?_append_right (by omega), List.getElem?_append_right (by rw [← h.1]; omega), e, h.1]
    simpa using hr
theorem one_is : Is .f32 1065353216 oneF := ⟨by decide, rfl⟩
theorem mul_is {r y D s s' : Nat} (h : Is .f32 r (fop .mul .f32 y s)) (hy : Is .f32 y D) (hs : s = s') : Is .f32 r (fop .mul .f32 D s') := by
  subst hs; exact h.op hy.cn rfl
def facV (L : List Nd) : Nat := (facs L L.length).getD (L.length - 1) 0
/-- The kinds, as a walk asks them. -/
theorem fac4 {D : List Nat} {d : Nd} (h : d.k = 4) : facK D d = longF (d.xs.getD 0 0) (d.xs.getD 1 0) (d.xs.getD 2 0) := by simp [facK, h]
theorem fac2 {D : List Nat} {d : Nd} {A B : Nat} (h : kidsK d.k = 2) (ha : d.a = (A : Nat)) (hb : d.b = (B : Nat)) : facK D d = grF (D.getD A 0) (D.getD B 0) := by
  have h4 : ¬ d.k = 4 := by intro e; rw [e] at h; simp [kidsK] at h
  simp [facK, h4, h, ha, hb]
theorem fac11 {D : List Nat} {d : Nd} {A : Nat} (h : d.k = 11) (ha : d.a = (A : Nat)) : facK D d = fop .mul .f32 (D.getD A 0) (stF d.xs) := by
  simp [facK, h, kidsK, ha]
theorem fac1 {D : List Nat} {d : Nd} {A : Nat} (h : kidsK d.k = 1) (h11 : ¬ d.k = 11) (ha : d.a = (A : Nat)) : facK D d = D.getD A 0 := by
  have h4 : ¬ d.k = 4 := by intro e; rw [e] at h; simp [kidsK] at h
  simp [facK, h4, h, h11, ha]
theorem fac0 {D : List Nat} {d : Nd} (h : kidsK d.k = 0) (h4 : ¬ d.k = 4) : facK D d = oneF := by
  have h11 : ¬ d.k = 11 := by intro e; rw [e] at h; simp [kidsK] at h
  simp [facK, h4, h, h11]
theorem facs_snoc {L : List Nd} {k r v : Nat} {d : Nd} {ys : List Nat} (hd : at_ L k = d) (h : Fls ys (facs L k)) (hv : facK (facs L k) d = v) (hr : Is .f32 r v) : Fls (ys ++ [r]) (facs L (k + 1)) := by
  have e : facs L (k + 1) = facs L k ++ [v] := by simp [facs, hd, hv]
  rw [e]; exact h.snoc hr
/-- A valid node of kind 4 or 11 has its numbers, all finite. -/
theorem nums_fin_of {i : Nat} {d : Nd} (h : okNd i d = true) : d.xs.length = cntK d.k ∧ ∀ x ∈ d.xs, isFin x = true := by
  simp only [okNd, numsB, Bool.and_eq_true, decide_eq_true_eq, List.all_eq_true] at h
  refine ⟨h.2.1.1, fun x hx => ?_⟩
  have := h.2.1.2 x hx
  simp only [numB, Bool.and_eq_true] at this
  exact this.1
theorem greater_any (a b : Nat) (w : World) : Calls Try.prog 97 #[.float .f32 a, .float .f32 b] w fun e w' => e = .returned (.float .f32 (grF a b)) ∧ w' = w := by
  have HR := Lib.hid (show grF a b = if (FloatKind.f32.format.order b a == some .gt) = true then b else a from rfl)
  cases h : (FloatKind.f32.format.order b a == some .gt)
  · rw [h] at HR
    go_enter Try.func97, Try.ntmps97
    go_wp2
    go_ret
    exact ⟨by rw [HR.out]; rfl, rfl⟩
  · rw [h] at HR
    go_enter Try.func97, Try.ntmps97
    go_wp2
    go_ret
    exact ⟨by rw [HR.out]; rfl, rfl⟩
theorem l02Greater_any (a b : Nat) (w : World) : Calls Try.prog 95 #[.float .f32 a, .float .f32 b] w fun e w' => e = .returned (.float .f32 (grF a b)) ∧ w' = w := by
  have HR := Lib.hid (show grF a b = if (FloatKind.f32.format.order b a == some .gt) = true then b else a from rfl)
  cases h : (FloatKind.f32.format.order b a == some .gt)
  · rw [h] at HR
    go_enter Try.func95, Try.ntmps95
    go_wp2
    go_ret
    exact ⟨by rw [HR.out]; rfl, rfl⟩
  · rw [h] at HR
    go_enter Try.func95, Try.ntmps95
    go_wp2
    go_ret
    exact ⟨by rw [HR.out]; rfl, rfl⟩
end Go.Proofs.Ytpbccoobkmahlaa
