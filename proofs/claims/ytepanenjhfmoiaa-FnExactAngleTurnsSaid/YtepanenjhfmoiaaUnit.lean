/- The unit of a vector. No conditions but that bits fit their kind. -/
import Derived.Test.YtepanenjhfmoiaaLong
import Derived.Test.YtepanenjhfmoiaaFinite
namespace Go.Proofs.Ytepanenjhfmoiaa
open Go.Fl Go.RowKit

theorem isFin_congr {x y : Nat} (h : cn .f32 x = cn .f32 y) : isFin x = isFin y := by unfold isFin; rw [fop_congr h h]
/-- No number by which one may divide, to make a unit, nor a share of one. -/
def badU (l : Nat) : Bool := (FloatKind.f32.format.order l 0 == some .eq) || !isFin l || !isFin (fop .quo .f32 1065353216 l)
def unitC (l c : Nat) : Nat := if badU l then 0 else fop .mul .f32 c (fop .quo .f32 1065353216 l)
theorem bad_of {l r r' : Nat} (hr : Is .f32 r l) (hr' : Is .f32 r' (fop .quo .f32 1065353216 r)) : badU l = ((FloatKind.f32.format.order r 0 == some .eq) || !isFin r || !isFin r') := by
  unfold badU
  rw [← order_congr hr.cn rfl, ← isFin_congr hr.cn, ← isFin_congr (x := r') (y := fop .quo .f32 1065353216 l) (hr'.op rfl hr.cn).cn]
theorem unit_is {l r r' c q : Nat} (hr : Is .f32 r l) (hr' : Is .f32 r' (fop .quo .f32 1065353216 r)) (hb : badU l = false) (hq : Is .f32 q (fop .mul .f32 c r')) : Is .f32 q (unitC l c) := by
  unfold unitC
  rw [hb]
  exact hq.op rfl (hr'.op rfl hr.cn).cn
theorem unit_no {l c : Nat} (hb : badU l = true) : Is .f32 0 (unitC l c) := by
  unfold unitC
  rw [hb]
  exact Is.refl (by decide)
theorem fin2 {w : World} {g x y : Nat} (h0 : w.cell? ⟨g, 0, none⟩ = some (.float .f32 x)) (h1 : w.cell? ⟨g, 1, none⟩ = some (.float .f32 y)) : FIn w (.slice (some ⟨g, 0, none⟩) 2 2) [x, y] :=
  ⟨_, 2, rfl, .inr ⟨g, 0, rfl, fun i hi => by
    match i, hi with
    | 0, _ => exact h0
    | 1, _ => exact h1⟩⟩
theorem fin3 {w : World} {g x y z : Nat} (h0 : w.cell? ⟨g, 0, none⟩ = some (.float .f32 x)) (h1 : w.cell? ⟨g, 1, none⟩ = some (.float .f32 y)) (h2 : w.cell? ⟨g, 2, none⟩ = some (.float .f32 z)) : FIn w (.slice (some ⟨g, 0, none⟩) 3 3) [x, y, z] :=
  ⟨_, 3, rfl, .inr ⟨g, 0, rfl, fun i hi => by
    match i, hi with
    | 0, _ => exact h0
    | 1, _ => exact h1
    | 2, _ => exact h2⟩⟩
theorem fin2_alloc (W : World) (g x y : Nat) (t : TypeId) (hg : g = W.heap.size) : FIn (W.alloc (.cells #[.float .f32 x, .float .f32 y] t)) (.slice (some ⟨g, 0, none⟩) 2 2) [x, y] :=
  fin2 (World.cell?_alloc_at _ _ _ _ hg) (World.cell?_alloc_at _ _ _ _ hg)
theorem fin3_alloc (W : World) (g x y z : Nat) (t : TypeId) (hg : g = W.heap.size) : FIn (W.alloc (.cells #[.float .f32 x, .float .f32 y, .float .f32 z] t)) (.slice (some ⟨g, 0, none⟩) 3 3) [x, y, z] :=
  fin3 (World.cell?_alloc_at _ _ _ _ hg) (World.cell?_alloc_at _ _ _ _ hg) (World.cell?_alloc_at _ _ _ _ hg)
/-- The three cells of the answer, in a block of the call's own, are empty yet. -/
def Z1 (w W : World) : Prop := w.heap.size + 1 < W.heap.size ∧ W.cell? ⟨w.heap.size + 1, 0, none⟩ = some (.float .f32 0) ∧ W.cell? ⟨w.heap.size + 1, 1, none⟩ = some (.float .f32 0) ∧ W.cell? ⟨w.heap.size + 1, 2, none⟩ = some (.float .f32 0) ∧
  W.frozen? ⟨w.heap.size + 1, 0, none⟩ = false ∧ W.frozen? ⟨w.heap.size + 1, 1, none⟩ = false ∧ W.frozen? ⟨w.heap.size + 1, 2, none⟩ = false
theorem Z1.drewN {w W : World} (h : Z1 w W) (n : Nat) : Z1 w (W.drewN n) := h
theorem Z1.below {w W W' : World} (h : Z1 w W) (hb : Below W.heap.size W W') : Z1 w W' :=
  ⟨Nat.lt_of_lt_of_le h.1 hb.size, (hb.cell (p := ⟨w.heap.size + 1, 0, none⟩) h.1).trans h.2.1, (hb.cell (p := ⟨w.heap.size + 1, 1, none⟩) h.1).trans h.2.2.1, (hb.cell (p := ⟨w.heap.size + 1, 2, none⟩) h.1).trans h.2.2.2.1,
    (hb.frozen (p := ⟨w.heap.size + 1, 0, none⟩) h.1).trans h.2.2.2.2.1, (hb.frozen (p := ⟨w.heap.size + 1, 1, none⟩) h.1).trans h.2.2.2.2.2.1, (hb.frozen (p := ⟨w.heap.size + 1, 2, none⟩) h.1).trans h.2.2.2.2.2.2⟩
theorem Z1.alloc {w W : World} (h : Z1 w W) (o : Obj) : Z1 w (W.alloc o) := h.below (bl_alloc (bl_refl _) _)
theorem Z1.two (w : World) (v : Array Value) (t : TypeId) : Z1 w ((w.alloc (.cells v t)).alloc (.cells #[.float .f32 0, .float .f32 0, .float .f32 0] t)) := by simp [Z1, go_sem]
/-- The three cells of the argument, boxed in a block of the call's own. -/
def A1 (w : World) (x y z : Nat) (W : World) : Prop := w.heap.size < W.heap.size ∧ W.cell? ⟨w.heap.size, 0, none⟩ = some (.float .f32 x) ∧ W.cell? ⟨w.heap.size, 1, none⟩ = some (.float .f32 y) ∧ W.cell? ⟨w.heap.size, 2, none⟩ = some (.float .f32 z)
theorem A1.drewN {w W : World} {x y z : Nat} (h : A1 w x y z W) (n : Nat) : A1 w x y z (W.drewN n) := h
theorem A1.below {w W W' : World} {x y z : Nat} (h : A1 w x y z W) (hb : Below W.heap.size W W') : A1 w x y z W' :=
  ⟨Nat.lt_of_lt_of_le h.1 hb.size, (hb.cell (p := ⟨w.heap.size, 0, none⟩) h.1).trans h.2.1, (hb.cell (p := ⟨w.heap.size, 1, none⟩) h.1).trans h.2.2.1, (hb.cell (p := ⟨w.heap.size, 2, none⟩) h.1).trans h.2.2.2⟩
theorem A1.alloc {w W : World} {x y z : Nat} (h : A1 w x y z W) (o : Obj) : A1 w x y z (W.alloc o) := h.below (bl_alloc (bl_refl _) _)
theorem A1.two (w : World) (x y z : Nat) (t : TypeId) (o : Obj) : A1 w x y z ((w.alloc (.cells #[.float .f32 x, .float .f32 y, .float .f32 z] t)).alloc o) := (by simp [A1, go_sem] : A1 w x y z (w.alloc (.cells #[.float .f32 x, .float .f32 y, .float .f32 z] t))).alloc o
theorem allFin2 (x y : Nat) : allFin [x, y] 2 = (isFin x && isFin y) := by simp [allFin]
theorem allFin3 (x y z : Nat) : allFin [x, y, z] 3 = (isFin x && isFin y && isFin z) := by simp [allFin, Bool.and_assoc]
set_option maxHeartbeats 1000000 in
theorem l03Unit_any (x y z : Nat) (w : World) : Calls Try.prog 41 #[.agg #[.float .f32 x, .float .f32 y, .float .f32 z]] w (VB w (unitC (longF x y z) x) (unitC (longF x y z) y) (unitC (longF x y z) z)) := by
  go_enter Try.func41, Try.ntmps41
  go_wp2_with fail
  refine (l01Long_any _ _ _ _).mono ?_
  rintro e w1 ⟨r, hr, rfl, hb⟩
  obtain ⟨hc, hf⟩ := bcell hb; have hz := hb.size; (try simp at hz); (first | have hz' := Nat.lt_of_succ_le hz | have hz' := Nat.lt_of_lt_of_le (by assumption) hz | skip)
  have zz := Lib.hid ((Z1.two w _ _).below hb)
  have aa := Lib.hid ((A1.two w x y z _ _).below hb)
  obtain ⟨hsz, c0, c1, c2, f0, f1, f2⟩ := zz.out
  obtain ⟨r', n, hr', hdiv⟩ : ∃ r' n, Is .f32 r' (fop .quo .f32 1065353216 r) ∧ (binOp .quo 22 (.float .f32 1065353216) (.float .f32 r)).run Try.prog w1 = .ok (.float .f32 r') (w1.drewN n) := ⟨_, _, fv_is w1 _ _ _ _, run_fopv rfl _ _ _ _ _⟩
  have hG := Lib.hid (bad_of hr hr')
  have F := fin2_alloc (w1.drewN n) w1.heap.size r r' 22 rfl
  cases h1 : (FloatKind.f32.format.order r 0 == some .eq)
  · cases h2 : isFin r
    · cases h3 : isFin r'
      · have hB := Lib.hid (show badU (longF x y z) = true by rw [hG.out, h1, h2, h3]; rfl)
        go_wp2_with (first | (go_at_call 60; refine (l01Finite_any _ _).mono ?_; rintro e w' ⟨rfl, m, rfl⟩) | (go_at_call 61; refine (l01Scale_any _ _ _ _ _).mono ?_; rintro e w2 ⟨q0, q1, q2, hq0, hq1, hq2, rfl, hb2⟩; obtain ⟨hsz2, d0, d1, d2, g0, g1, g2⟩ := Z1.below (by first | exact zz.out | exact zz.out.alloc _ | exact (zz.out.drewN _).alloc _ | exact ((zz.out.drewN _).alloc _).drewN _) hb2))
        exact bodyPost_ret (v := .agg #[.float .f32 0, .float .f32 0, .float .f32 0]) (by simp [results, Try.results41, go_sem, hc]) rfl ⟨0, 0, 0, unit_no hB.out, unit_no hB.out, unit_no hB.out, rfl, (by repeat (first | with_reducible exact bl_refl _ | with_reducible assumption | with_reducible refine bl_set ?_ (by first | assumption | omega | (simp <;> omega)) _ | with_reducible refine bl_drewN ?_ _ | with_reducible refine bl_drew ?_ | with_reducible refine bl_alloc ?_ _ | with_reducible refine bl_call ?_ (by assumption)))⟩
      · have hB := Lib.hid (show badU (longF x y z) = true by rw [hG.out, h1, h2, h3]; rfl)
        go_wp2_with (first | (go_at_call 60; refine (l01Finite_any _ _).mono ?_; rintro e w' ⟨rfl, m, rfl⟩) | (go_at_call 61; refine (l01Scale_any _ _ _ _ _).mono ?_; rintro e w2 ⟨q0, q1, q2, hq0, hq1, hq2, rfl, hb2⟩; obtain ⟨hsz2, d0, d1, d2, g0, g1, g2⟩ := Z1.below (by first | exact zz.out | exact zz.out.alloc _ | exact (zz.out.drewN _).alloc _ | exact ((zz.out.drewN _).alloc _).drewN _) hb2))
        exact bodyPost_ret (v := .agg #[.float .f32 0, .float .f32 0, .float .f32 0]) (by simp [results, Try.results41, go_sem, hc]) rfl ⟨0, 0, 0, unit_no hB.out, unit_no hB.out, unit_no hB.out, rfl, (by repeat (first | with_reducible exact bl_refl _ | with_reducible assumption | with_reducible refine bl_set ?_ (by first | assumption | omega | (simp <;> omega)) _ | with_reducible refine bl_drewN ?_ _ | with_reducible refine bl_drew ?_ | with_reducible refine bl_alloc ?_ _ | with_reducible refine bl_call ?_ (by assumption)))⟩
    · cases h3 : isFin r'
      · have hB := Lib.hid (show badU (longF x y z) = true by rw [hG.out, h1, h2, h3]; rfl)
        go_wp2_with (first | (go_at_call 60; refine (l01Finite_any _ _).mono ?_; rintro e w' ⟨rfl, m, rfl⟩) | (go_at_call 61; refine (l01Scale_any _ _ _ _ _).mono ?_; rintro e w2 ⟨q0, q1, q2, hq0, hq1, hq2, rfl, hb2⟩; obtain ⟨hsz2, d0, d1, d2, g0, g1, g2⟩ := Z1.below (by first | exact zz.out | exact zz.out.alloc _ | exact (zz.out.drewN _).alloc _ | exact ((zz.out.drewN _).alloc _).drewN _) hb2))
        exact bodyPost_ret (v := .agg #[.float .f32 0, .float .f32 0, .float .f32 0]) (by simp [results, Try.results41, go_sem, hc]) rfl ⟨0, 0, 0, unit_no hB.out, unit_no hB.out, unit_no hB.out, rfl, (by repeat (first | with_reducible exact bl_refl _ | with_reducible assumption | with_reducible refine bl_set ?_ (by first | assumption | omega | (simp <;> omega)) _ | with_reducible refine bl_drewN ?_ _ | with_reducible refine bl_drew ?_ | with_reducible refine bl_alloc ?_ _ | with_reducible refine bl_call ?_ (by assumption)))⟩
      · have hB := Lib.hid (show badU (longF x y z) = false by rw [hG.out, h1, h2, h3]; rfl)
        go_wp2_with (first | (go_at_call 60; refine (l01Finite_any _ _).mono ?_; rintro e w' ⟨rfl, m, rfl⟩) | (go_at_call 61; refine (l01Scale_any _ _ _ _ _).mono ?_; rintro e w2 ⟨q0, q1, q2, hq0, hq1, hq2, rfl, hb2⟩; obtain ⟨hsz2, d0, d1, d2, g0, g1, g2⟩ := Z1.below (by first | exact zz.out | exact zz.out.alloc _ | exact (zz.out.drewN _).alloc _ | exact ((zz.out.drewN _).alloc _).drewN _) hb2))
        exact bodyPost_ret (v := .agg #[.float .f32 q0, .float .f32 q1, .float .f32 q2]) (by simp [results, Try.results41, go_sem, *]) rfl ⟨_, _, _, unit_is hr hr' hB.out hq0, unit_is hr hr' hB.out hq1, unit_is hr hr' hB.out hq2, rfl, (by repeat (first | with_reducible exact bl_refl _ | with_reducible assumption | with_reducible refine bl_set ?_ (by first | assumption | omega | (simp <;> omega)) _ | with_reducible refine bl_drewN ?_ _ | with_reducible refine bl_drew ?_ | with_reducible refine bl_alloc ?_ _ | with_reducible refine bl_call ?_ (by assumption)))⟩
  · cases h2 : isFin r
    · cases h3 : isFin r'
      · have hB := Lib.hid (show badU (longF x y z) = true by rw [hG.out, h1, h2, h3]; rfl)
        go_wp2_with (first | (go_at_call 60; refine (l01Finite_any _ _).mono ?_; rintro e w' ⟨rfl, m, rfl⟩) | (go_at_call 61; refine (l01Scale_any _ _ _ _ _).mono ?_; rintro e w2 ⟨q0, q1, q2, hq0, hq1, hq2, rfl, hb2⟩; obtain ⟨hsz2, d0, d1, d2, g0, g1, g2⟩ := Z1.below (by first | exact zz.out | exact zz.out.alloc _ | exact (zz.out.drewN _).alloc _ | exact ((zz.out.drewN _).alloc _).drewN _) hb2))
        exact bodyPost_ret (v := .agg #[.float .f32 0, .float .f32 0, .float .f32 0]) (by simp [results, Try.results41, go_sem, hc]) rfl ⟨0, 0, 0, unit_no hB.out, unit_no hB.out, unit_no hB.out, rfl, (by repeat (first | with_reducible exact bl_refl _ | with_reducible assumption | with_reducible refine bl_set ?_ (by first | assumption | omega | (simp <;> omega)) _ | with_reducible refine bl_drewN ?_ _ | with_reducible refine bl_drew ?_ | with_reducible refine bl_alloc ?_ _ | with_reducible refine bl_call ?_ (by assumption)))⟩
      · have hB := Lib.hid (show badU (longF x y z) = true by rw [hG.out, h1, h2, h3]; rfl)
        go_wp2_with (first | (go_at_call 60; refine (l01Finite_any _ _).mono ?_; rintro e w' ⟨rfl, m, rfl⟩) | (go_at_call 61; refine (l01Scale_any _ _ _ _ _).mono ?_; rintro e w2 ⟨q0, q1, q2, hq0, hq1, hq2, rfl, hb2⟩; obtain ⟨hsz2, d0, d1, d2, g0, g1, g2⟩ := Z1.below (by first | exact zz.out | exact zz.out.alloc _ | exact (zz.out.drewN _).alloc _ | exact ((zz.out.drewN _).alloc _).drewN _) hb2))
        exact bodyPost_ret (v := .agg #[.float .f32 0, .float .f32 0, .float .f32 0]) (by simp [results, Try.results41, go_sem, hc]) rfl ⟨0, 0, 0, unit_no hB.out, unit_no hB.out, unit_no hB.out, rfl, (by repeat (first | with_reducible exact bl_refl _ | with_reducible assumption | with_reducible refine bl_set ?_ (by first | assumption | omega | (simp <;> omega)) _ | with_reducible refine bl_drewN ?_ _ | with_reducible refine bl_drew ?_ | with_reducible refine bl_alloc ?_ _ | with_reducible refine bl_call ?_ (by assumption)))⟩
    · cases h3 : isFin r'
      · have hB := Lib.hid (show badU (longF x y z) = true by rw [hG.out, h1, h2, h3]; rfl)
        go_wp2_with (first | (go_at_call 60; refine (l01Finite_any _ _).mono ?_; rintro e w' ⟨rfl, m, rfl⟩) | (go_at_call 61; refine (l01Scale_any _ _ _ _ _).mono ?_; rintro e w2 ⟨q0, q1, q2, hq0, hq1, hq2, rfl, hb2⟩; obtain ⟨hsz2, d0, d1, d2, g0, g1, g2⟩ := Z1.below (by first | exact zz.out | exact zz.out.alloc _ | exact (zz.out.drewN _).alloc _ | exact ((zz.out.drewN _).alloc _).drewN _) hb2))
        exact bodyPost_ret (v := .agg #[.float .f32 0, .float .f32 0, .float .f32 0]) (by simp [results, Try.results41, go_sem, hc]) rfl ⟨0, 0, 0, unit_no hB.out, unit_no hB.out, unit_no hB.out, rfl, (by repeat (first | with_reducible exact bl_refl _ | with_reducible assumption | with_reducible refine bl_set ?_ (by first | assumption | omega | (simp <;> omega)) _ | with_reducible refine bl_drewN ?_ _ | with_reducible refine bl_drew ?_ | with_reducible refine bl_alloc ?_ _ | with_reducible refine bl_call ?_ (by assumption)))⟩
      · have hB := Lib.hid (show badU (longF x y z) = true by rw [hG.out, h1, h2, h3]; rfl)
        go_wp2_with (first | (go_at_call 60; refine (l01Finite_any _ _).mono ?_; rintro e w' ⟨rfl, m, rfl⟩) | (go_at_call 61; refine (l01Scale_any _ _ _ _ _).mono ?_; rintro e w2 ⟨q0, q1, q2, hq0, hq1, hq2, rfl, hb2⟩; obtain ⟨hsz2, d0, d1, d2, g0, g1, g2⟩ := Z1.below (by first | exact zz.out | exact zz.out.alloc _ | exact (zz.out.drewN _).alloc _ | exact ((zz.out.drewN _).alloc _).drewN _) hb2))
        exact bodyPost_ret (v := .agg #[.float .f32 0, .float .f32 0, .float .f32 0]) (by simp [results, Try.results41, go_sem, hc]) rfl ⟨0, 0, 0, unit_no hB.out, unit_no hB.out, unit_no hB.out, rfl, (by repeat (first | with_reducible exact bl_refl _ | with_reducible assumption | with_reducible refine bl_set ?_ (by first | assumption | omega | (simp <;> omega)) _ | with_reducible refine bl_drewN ?_ _ | with_reducible refine bl_drew ?_ | with_reducible refine bl_alloc ?_ _ | with_reducible refine bl_call ?_ (by assumption)))⟩
set_option maxHeartbeats 1000000 in
theorem UnitOf_any (x y z : Nat) (w : World) : Calls Try.prog 22 #[.agg #[.float .f32 x, .float .f32 y, .float .f32 z]] w (VB w (unitC (longF x y z) x) (unitC (longF x y z) y) (unitC (longF x y z) z)) := by
  go_enter Try.func22, Try.ntmps22
  go_wp2_with fail
  refine (LongOf_any _ _ _ _).mono ?_
  rintro e w1 ⟨r, hr, rfl, hb⟩
  obtain ⟨hc, hf⟩ := bcell hb; have hz := hb.size; (try simp at hz); (first | have hz' := Nat.lt_of_succ_le hz | have hz' := Nat.lt_of_lt_of_le (by assumption) hz | skip)
  have zz := Lib.hid ((Z1.two w _ _).below hb)
  have aa := Lib.hid ((A1.two w x y z _ _).below hb)
  obtain ⟨hsz, c0, c1, c2, f0, f1, f2⟩ := zz.out
  obtain ⟨r', n, hr', hdiv⟩ : ∃ r' n, Is .f32 r' (fop .quo .f32 1065353216 r) ∧ (binOp .quo 22 (.float .f32 1065353216) (.float .f32 r)).run Try.prog w1 = .ok (.float .f32 r') (w1.drewN n) := ⟨_, _, fv_is w1 _ _ _ _, run_fopv rfl _ _ _ _ _⟩
  have hG := Lib.hid (bad_of hr hr')
  have F := fin2_alloc (w1.drewN n) w1.heap.size r r' 22 rfl
  cases h1 : (FloatKind.f32.format.order r 0 == some .eq)
  · cases h2 : isFin r
    · cases h3 : isFin r'
      · have hB := Lib.hid (show badU (longF x y z) = true by rw [hG.out, h1, h2, h3]; rfl)
        go_wp2_with (first | (go_at_call 42; refine (finite_any _ [r, r'] _ F (by simp)).mono ?_; rintro e w' ⟨rfl, m, rfl⟩; have e2 := allFin2 r r'; obtain ⟨hs3, p0, p1, p2, z0, z1, z2⟩ := (zz.out.drewN n).alloc (.cells #[.float .f32 r, .float .f32 r'] 22); obtain ⟨_, a0, a1, a2⟩ := (aa.out.drewN n).alloc (.cells #[.float .f32 r, .float .f32 r'] 22)) | (go_at_call 43; refine (ScaleVector_any _ _ _ _ _).mono ?_; rintro e w2 ⟨q0, q1, q2, hq0, hq1, hq2, rfl, hb2⟩; obtain ⟨hsz2, d0, d1, d2, g0, g1, g2⟩ := Z1.below (by first | exact zz.out | exact zz.out.alloc _ | exact (zz.out.drewN _).alloc _ | exact ((zz.out.drewN _).alloc _).drewN _) hb2))
        exact bodyPost_ret (v := .agg #[.float .f32 0, .float .f32 0, .float .f32 0]) (by simp [results, Try.results22, go_sem, *]) rfl ⟨0, 0, 0, unit_no hB.out, unit_no hB.out, unit_no hB.out, rfl, (by repeat (first | with_reducible exact bl_refl _ | with_reducible assumption | with_reducible refine bl_set ?_ (by first | assumption | omega | (simp <;> omega)) _ | with_reducible refine bl_drewN ?_ _ | with_reducible refine bl_drew ?_ | with_reducible refine bl_alloc ?_ _ | with_reducible refine bl_call ?_ (by assumption)))⟩
      · have hB := Lib.hid (show badU (longF x y z) = true by rw [hG.out, h1, h2, h3]; rfl)
        go_wp2_with (first | (go_at_call 42; refine (finite_any _ [r, r'] _ F (by simp)).mono ?_; rintro e w' ⟨rfl, m, rfl⟩; have e2 := allFin2 r r'; obtain ⟨hs3, p0, p1, p2, z0, z1, z2⟩ := (zz.out.drewN n).alloc (.cells #[.float .f32 r, .float .f32 r'] 22); obtain ⟨_, a0, a1, a2⟩ := (aa.out.drewN n).alloc (.cells #[.float .f32 r, .float .f32 r'] 22)) | (go_at_call 43; refine (ScaleVector_any _ _ _ _ _).mono ?_; rintro e w2 ⟨q0, q1, q2, hq0, hq1, hq2, rfl, hb2⟩; obtain ⟨hsz2, d0, d1, d2, g0, g1, g2⟩ := Z1.below (by first | exact zz.out | exact zz.out.alloc _ | exact (zz.out.drewN _).alloc _ | exact ((zz.out.drewN _).alloc _).drewN _) hb2))
        exact bodyPost_ret (v := .agg #[.float .f32 0, .float .f32 0, .float .f32 0]) (by simp [results, Try.results22, go_sem, *]) rfl ⟨0, 0, 0, unit_no hB.out, unit_no hB.out, unit_no hB.out, rfl, (by repeat (first | with_reducible exact bl_refl _ | with_reducible assumption | with_reducible refine bl_set ?_ (by first | assumption | omega | (simp <;> omega)) _ | with_reducible refine bl_drewN ?_ _ | with_reducible refine bl_drew ?_ | with_reducible refine bl_alloc ?_ _ | with_reducible refine bl_call ?_ (by assumption)))⟩
    · cases h3 : isFin r'
      · have hB := Lib.hid (show badU (longF x y z) = true by rw [hG.out, h1, h2, h3]; rfl)
        go_wp2_with (first | (go_at_call 42; refine (finite_any _ [r, r'] _ F (by simp)).mono ?_; rintro e w' ⟨rfl, m, rfl⟩; have e2 := allFin2 r r'; obtain ⟨hs3, p0, p1, p2, z0, z1, z2⟩ := (zz.out.drewN n).alloc (.cells #[.float .f32 r, .float .f32 r'] 22); obtain ⟨_, a0, a1, a2⟩ := (aa.out.drewN n).alloc (.cells #[.float .f32 r, .float .f32 r'] 22)) | (go_at_call 43; refine (ScaleVector_any _ _ _ _ _).mono ?_; rintro e w2 ⟨q0, q1, q2, hq0, hq1, hq2, rfl, hb2⟩; obtain ⟨hsz2, d0, d1, d2, g0, g1, g2⟩ := Z1.below (by first | exact zz.out | exact zz.out.alloc _ | exact (zz.out.drewN _).alloc _ | exact ((zz.out.drewN _).alloc _).drewN _) hb2))
        exact bodyPost_ret (v := .agg #[.float .f32 0, .float .f32 0, .float .f32 0]) (by simp [results, Try.results22, go_sem, *]) rfl ⟨0, 0, 0, unit_no hB.out, unit_no hB.out, unit_no hB.out, rfl, (by repeat (first | with_reducible exact bl_refl _ | with_reducible assumption | with_reducible refine bl_set ?_ (by first | assumption | omega | (simp <;> omega)) _ | with_reducible refine bl_drewN ?_ _ | with_reducible refine bl_drew ?_ | with_reducible refine bl_alloc ?_ _ | with_reducible refine bl_call ?_ (by assumption)))⟩
      · have hB := Lib.hid (show badU (longF x y z) = false by rw [hG.out, h1, h2, h3]; rfl)
        go_wp2_with (first | (go_at_call 42; refine (finite_any _ [r, r'] _ F (by simp)).mono ?_; rintro e w' ⟨rfl, m, rfl⟩; have e2 := allFin2 r r'; obtain ⟨hs3, p0, p1, p2, z0, z1, z2⟩ := (zz.out.drewN n).alloc (.cells #[.float .f32 r, .float .f32 r'] 22); obtain ⟨_, a0, a1, a2⟩ := (aa.out.drewN n).alloc (.cells #[.float .f32 r, .float .f32 r'] 22)) | (go_at_call 43; refine (ScaleVector_any _ _ _ _ _).mono ?_; rintro e w2 ⟨q0, q1, q2, hq0, hq1, hq2, rfl, hb2⟩; obtain ⟨hsz2, d0, d1, d2, g0, g1, g2⟩ := Z1.below (by first | exact zz.out | exact zz.out.alloc _ | exact (zz.out.drewN _).alloc _ | exact ((zz.out.drewN _).alloc _).drewN _) hb2))
        exact bodyPost_ret (v := .agg #[.float .f32 q0, .float .f32 q1, .float .f32 q2]) (by simp [results, Try.results22, go_sem, *]) rfl ⟨_, _, _, unit_is hr hr' hB.out hq0, unit_is hr hr' hB.out hq1, unit_is hr hr' hB.out hq2, rfl, (by repeat (first | with_reducible exact bl_refl _ | with_reducible assumption | with_reducible refine bl_set ?_ (by first | assumption | omega | (simp <;> omega)) _ | with_reducible refine bl_drewN ?_ _ | with_reducible refine bl_drew ?_ | with_reducible refine bl_alloc ?_ _ | with_reducible refine bl_call ?_ (by assumption)))⟩
  · cases h2 : isFin r
    · cases h3 : isFin r'
      · have hB := Lib.hid (show badU (longF x y z) = true by rw [hG.out, h1, h2, h3]; rfl)
        go_wp2_with (first | (go_at_call 42; refine (finite_any _ [r, r'] _ F (by simp)).mono ?_; rintro e w' ⟨rfl, m, rfl⟩; have e2 := allFin2 r r'; obtain ⟨hs3, p0, p1, p2, z0, z1, z2⟩ := (zz.out.drewN n).alloc (.cells #[.float .f32 r, .float .f32 r'] 22); obtain ⟨_, a0, a1, a2⟩ := (aa.out.drewN n).alloc (.cells #[.float .f32 r, .float .f32 r'] 22)) | (go_at_call 43; refine (ScaleVector_any _ _ _ _ _).mono ?_; rintro e w2 ⟨q0, q1, q2, hq0, hq1, hq2, rfl, hb2⟩; obtain ⟨hsz2, d0, d1, d2, g0, g1, g2⟩ := Z1.below (by first | exact zz.out | exact zz.out.alloc _ | exact (zz.out.drewN _).alloc _ | exact ((zz.out.drewN _).alloc _).drewN _) hb2))
        exact bodyPost_ret (v := .agg #[.float .f32 0, .float .f32 0, .float .f32 0]) (by simp [results, Try.results22, go_sem, *]) rfl ⟨0, 0, 0, unit_no hB.out, unit_no hB.out, unit_no hB.out, rfl, (by repeat (first | with_reducible exact bl_refl _ | with_reducible assumption | with_reducible refine bl_set ?_ (by first | assumption | omega | (simp <;> omega)) _ | with_reducible refine bl_drewN ?_ _ | with_reducible refine bl_drew ?_ | with_reducible refine bl_alloc ?_ _ | with_reducible refine bl_call ?_ (by assumption)))⟩
      · have hB := Lib.hid (show badU (longF x y z) = true by rw [hG.out, h1, h2, h3]; rfl)
        go_wp2_with (first | (go_at_call 42; refine (finite_any _ [r, r'] _ F (by simp)).mono ?_; rintro e w' ⟨rfl, m, rfl⟩; have e2 := allFin2 r r'; obtain ⟨hs3, p0, p1, p2, z0, z1, z2⟩ := (zz.out.drewN n).alloc (.cells #[.float .f32 r, .float .f32 r'] 22); obtain ⟨_, a0, a1, a2⟩ := (aa.out.drewN n).alloc (.cells #[.float .f32 r, .float .f32 r'] 22)) | (go_at_call 43; refine (ScaleVector_any _ _ _ _ _).mono ?_; rintro e w2 ⟨q0, q1, q2, hq0, hq1, hq2, rfl, hb2⟩; obtain ⟨hsz2, d0, d1, d2, g0, g1, g2⟩ := Z1.below (by first | exact zz.out | exact zz.out.alloc _ | exact (zz.out.drewN _).alloc _ | exact ((zz.out.drewN _).alloc _).drewN _) hb2))
        exact bodyPost_ret (v := .agg #[.float .f32 0, .float .f32 0, .float .f32 0]) (by simp [results, Try.results22, go_sem, *]) rfl ⟨0, 0, 0, unit_no hB.out, unit_no hB.out, unit_no hB.out, rfl, (by repeat (first | with_reducible exact bl_refl _ | with_reducible assumption | with_reducible refine bl_set ?_ (by first | assumption | omega | (simp <;> omega)) _ | with_reducible refine bl_drewN ?_ _ | with_reducible refine bl_drew ?_ | with_reducible refine bl_alloc ?_ _ | with_reducible refine bl_call ?_ (by assumption)))⟩
    · cases h3 : isFin r'
      · have hB := Lib.hid (show badU (longF x y z) = true by rw [hG.out, h1, h2, h3]; rfl)
        go_wp2_with (first | (go_at_call 42; refine (finite_any _ [r, r'] _ F (by simp)).mono ?_; rintro e w' ⟨rfl, m, rfl⟩; have e2 := allFin2 r r'; obtain ⟨hs3, p0, p1, p2, z0, z1, z2⟩ := (zz.out.drewN n).alloc (.cells #[.float .f32 r, .float .f32 r'] 22); obtain ⟨_, a0, a1, a2⟩ := (aa.out.drewN n).alloc (.cells #[.float .f32 r, .float .f32 r'] 22)) | (go_at_call 43; refine (ScaleVector_any _ _ _ _ _).mono ?_; rintro e w2 ⟨q0, q1, q2, hq0, hq1, hq2, rfl, hb2⟩; obtain ⟨hsz2, d0, d1, d2, g0, g1, g2⟩ := Z1.below (by first | exact zz.out | exact zz.out.alloc _ | exact (zz.out.drewN _).alloc _ | exact ((zz.out.drewN _).alloc _).drewN _) hb2))
        exact bodyPost_ret (v := .agg #[.float .f32 0, .float .f32 0, .float .f32 0]) (by simp [results, Try.results22, go_sem, *]) rfl ⟨0, 0, 0, unit_no hB.out, unit_no hB.out, unit_no hB.out, rfl, (by repeat (first | with_reducible exact bl_refl _ | with_reducible assumption | with_reducible refine bl_set ?_ (by first | assumption | omega | (simp <;> omega)) _ | with_reducible refine bl_drewN ?_ _ | with_reducible refine bl_drew ?_ | with_reducible refine bl_alloc ?_ _ | with_reducible refine bl_call ?_ (by assumption)))⟩
      · have hB := Lib.hid (show badU (longF x y z) = true by rw [hG.out, h1, h2, h3]; rfl)
        go_wp2_with (first | (go_at_call 42; refine (finite_any _ [r, r'] _ F (by simp)).mono ?_; rintro e w' ⟨rfl, m, rfl⟩; have e2 := allFin2 r r'; obtain ⟨hs3, p0, p1, p2, z0, z1, z2⟩ := (zz.out.drewN n).alloc (.cells #[.float .f32 r, .float .f32 r'] 22); obtain ⟨_, a0, a1, a2⟩ := (aa.out.drewN n).alloc (.cells #[.float .f32 r, .float .f32 r'] 22)) | (go_at_call 43; refine (ScaleVector_any _ _ _ _ _).mono ?_; rintro e w2 ⟨q0, q1, q2, hq0, hq1, hq2, rfl, hb2⟩; obtain ⟨hsz2, d0, d1, d2, g0, g1, g2⟩ := Z1.below (by first | exact zz.out | exact zz.out.alloc _ | exact (zz.out.drewN _).alloc _ | exact ((zz.out.drewN _).alloc _).drewN _) hb2))
        exact bodyPost_ret (v := .agg #[.float .f32 0, .float .f32 0, .float .f32 0]) (by simp [results, Try.results22, go_sem, *]) rfl ⟨0, 0, 0, unit_no hB.out, unit_no hB.out, unit_no hB.out, rfl, (by repeat (first | with_reducible exact bl_refl _ | with_reducible assumption | with_reducible refine bl_set ?_ (by first | assumption | omega | (simp <;> omega)) _ | with_reducible refine bl_drewN ?_ _ | with_reducible refine bl_drew ?_ | with_reducible refine bl_alloc ?_ _ | with_reducible refine bl_call ?_ (by assumption)))⟩
theorem spec_UnitOf_any (x y z : Nat) (w : World) : Calls Try.prog 21 #[.agg #[.float .f32 x, .float .f32 y, .float .f32 z]] w (VB w (unitC (longF x y z) x) (unitC (longF x y z) y) (unitC (longF x y z) z)) := by
  go_enter Try.func21, Try.ntmps21
  go_wp2_with fail
  refine (l03Unit_any x y z _).mono ?_
  rintro e w1 ⟨r, s', t, hr, hs, ht, rfl, hb⟩
  obtain ⟨hc, hf⟩ := bcell hb
  go_wp2_with fail
  refine bodyPost_ret (v := .agg #[.float .f32 r, .float .f32 s', .float .f32 t]) (by simp [results, Try.results21, go_sem, hc]) rfl ⟨_, _, _, hr, hs, ht, rfl, (by repeat (first | with_reducible exact bl_refl _ | with_reducible assumption | with_reducible refine bl_set ?_ (by first | assumption | omega | (simp <;> omega)) _ | with_reducible refine bl_drewN ?_ _ | with_reducible refine bl_drew ?_ | with_reducible refine bl_alloc ?_ _ | with_reducible refine bl_call ?_ (by assumption)))⟩
end Go.Proofs.Ytepanenjhfmoiaa
