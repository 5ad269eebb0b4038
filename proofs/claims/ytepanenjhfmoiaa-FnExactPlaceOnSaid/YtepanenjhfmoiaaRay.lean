/- Rays: whether one is right, and the places on it. No conditions but that bits fit their kind. -/
import Derived.Test.YtepanenjhfmoiaaUnit
namespace Go.Proofs.Ytepanenjhfmoiaa
open Go.Fl Go.RowKit

def ne0 (x : Nat) : Bool := FloatKind.f32.format.order x 0 != some .eq
theorem ne0_congr {x y : Nat} (h : cn .f32 x = cn .f32 y) : ne0 x = ne0 y := by unfold ne0; rw [order_congr h rfl]
/-- A number that is not zero, and none that is a not-a-number. -/
def hw (x y z : Nat) : Bool := !isNan .f32 x && (!isNan .f32 y && (!isNan .f32 z && (ne0 x || (ne0 y || ne0 z))))
theorem hw_congr {x y z x' y' z' : Nat} (hx : cn .f32 x = cn .f32 x') (hy : cn .f32 y = cn .f32 y') (hz : cn .f32 z = cn .f32 z') : hw x y z = hw x' y' z' := by
  unfold hw; rw [isNan_of_cn hx, isNan_of_cn hy, isNan_of_cn hz, ne0_congr hx, ne0_congr hy, ne0_congr hz]
def fin3B (x y z : Nat) : Bool := isFin x && (isFin y && isFin z)
def hwU (wx wy wz : Nat) : Bool := hw (unitC (longF wx wy wz) wx) (unitC (longF wx wy wz) wy) (unitC (longF wx wy wz) wz)
def rayB (fx fy fz wx wy wz : Nat) : Bool := fin3B fx fy fz && hwU wx wy wz
theorem hwU_of {wx wy wz r s t : Nat} (hr : Is .f32 r (unitC (longF wx wy wz) wx)) (hs : Is .f32 s (unitC (longF wx wy wz) wy)) (ht : Is .f32 t (unitC (longF wx wy wz) wz)) : hwU wx wy wz = hw r s t :=
  (hw_congr hr.cn hs.cn ht.cn).symm
theorem self_of {x : Nat} (h : isNan .f32 x = false) : (FloatKind.f32.format.order x x == some .eq) = true := by rw [order_self h]; rfl
theorem self_not {x : Nat} (h : isNan .f32 x = true) : (FloatKind.f32.format.order x x == some .eq) = false := by rw [order_self_nan h]; rfl
theorem bb_of {w w' : World} {a b : Bool} (h : b = a) (hw : Below w.heap.size w w') : BB w b (.returned (.bool a)) w' := ⟨ret_bool h.symm, hw⟩

theorem finiteVector_any (x y z : Nat) (w : World) : Calls Try.prog 39 #[.agg #[.float .f32 x, .float .f32 y, .float .f32 z]] w (BB w (fin3B x y z)) := by
  have F := fin3_alloc (w.alloc (.cells #[.float .f32 x, .float .f32 y, .float .f32 z] 30)) (w.heap.size + 1) x y z 22 (by simp)
  go_enter Try.func39, Try.ntmps39
  go_wp2_with (go_at_call 42; refine (finite_any _ [x, y, z] _ F (by simp)).mono ?_; rintro e w' ⟨rfl, m, rfl⟩)
  go_ret
  exact ⟨ret_bool (by rw [fin3B]; simp [allFin]), bl_drewN (bl_alloc (bl_alloc (bl_refl _) _) _) _⟩
theorem l01VFinite_any (x y z : Nat) (w : World) : Calls Try.prog 58 #[.agg #[.float .f32 x, .float .f32 y, .float .f32 z]] w (BB w (fin3B x y z)) := by
  cases h1 : isFin x
  · have H := Lib.hid (show fin3B x y z = false by simp [fin3B, h1])
    go_enter Try.func58, Try.ntmps58
    go_wp2_with (go_at_call 60; refine (l01Finite_any _ _).mono ?_; rintro e w' ⟨rfl, n, rfl⟩)
    go_ret
    exact bb_of H.out (by repeat (first | with_reducible exact bl_refl _ | with_reducible assumption | with_reducible refine bl_set ?_ (by first | assumption | omega | (simp <;> omega)) _ | with_reducible refine bl_drewN ?_ _ | with_reducible refine bl_drew ?_ | with_reducible refine bl_alloc ?_ _ | with_reducible refine bl_call ?_ (by assumption)))
  · cases h2 : isFin y
    · have H := Lib.hid (show fin3B x y z = false by simp [fin3B, h1, h2])
      go_enter Try.func58, Try.ntmps58
      go_wp2_with (go_at_call 60; refine (l01Finite_any _ _).mono ?_; rintro e w' ⟨rfl, n, rfl⟩)
      go_ret
      exact bb_of H.out (by repeat (first | with_reducible exact bl_refl _ | with_reducible assumption | with_reducible refine bl_set ?_ (by first | assumption | omega | (simp <;> omega)) _ | with_reducible refine bl_drewN ?_ _ | with_reducible refine bl_drew ?_ | with_reducible refine bl_alloc ?_ _ | with_reducible refine bl_call ?_ (by assumption)))
    · cases h3 : isFin z
      · have H := Lib.hid (show fin3B x y z = false by simp [fin3B, h1, h2, h3])
        go_enter Try.func58, Try.ntmps58
        go_wp2_with (go_at_call 60; refine (l01Finite_any _ _).mono ?_; rintro e w' ⟨rfl, n, rfl⟩)
        go_ret
        exact bb_of H.out (by repeat (first | with_reducible exact bl_refl _ | with_reducible assumption | with_reducible refine bl_set ?_ (by first | assumption | omega | (simp <;> omega)) _ | with_reducible refine bl_drewN ?_ _ | with_reducible refine bl_drew ?_ | with_reducible refine bl_alloc ?_ _ | with_reducible refine bl_call ?_ (by assumption)))
      · have H := Lib.hid (show fin3B x y z = true by simp [fin3B, h1, h2, h3])
        go_enter Try.func58, Try.ntmps58
        go_wp2_with (go_at_call 60; refine (l01Finite_any _ _).mono ?_; rintro e w' ⟨rfl, n, rfl⟩)
        go_ret
        exact bb_of H.out (by repeat (first | with_reducible exact bl_refl _ | with_reducible assumption | with_reducible refine bl_set ?_ (by first | assumption | omega | (simp <;> omega)) _ | with_reducible refine bl_drewN ?_ _ | with_reducible refine bl_drew ?_ | with_reducible refine bl_alloc ?_ _ | with_reducible refine bl_call ?_ (by assumption)))
theorem hasWay_any (x y z : Nat) (w : World) : Calls Try.prog 40 #[.agg #[.float .f32 x, .float .f32 y, .float .f32 z]] w (BB w (hw x y z)) := by
  cases nx : isNan .f32 x
  · cases ny : isNan .f32 y
    · cases nz : isNan .f32 z
      · cases zx : ne0 x
        · cases zy : ne0 y
          · cases zz : ne0 z
            · have H := Lib.hid (show hw x y z = false by simp [hw, nx, ny, nz, zx, zy, zz])
              unfold ne0 at zx
              unfold ne0 at zy
              unfold ne0 at zz
              go_enter Try.func40, Try.ntmps40
              go_wp2_with (go_at_call 59; refine (isNaN_any _ _).mono ?_; rintro e w' ⟨rfl, n, rfl⟩)
              go_ret
              exact bb_of H.out (by repeat (first | with_reducible exact bl_refl _ | with_reducible assumption | with_reducible refine bl_set ?_ (by first | assumption | omega | (simp <;> omega)) _ | with_reducible refine bl_drewN ?_ _ | with_reducible refine bl_drew ?_ | with_reducible refine bl_alloc ?_ _ | with_reducible refine bl_call ?_ (by assumption)))
            · have H := Lib.hid (show hw x y z = true by simp [hw, nx, ny, nz, zx, zy, zz])
              unfold ne0 at zx
              unfold ne0 at zy
              unfold ne0 at zz
              go_enter Try.func40, Try.ntmps40
              go_wp2_with (go_at_call 59; refine (isNaN_any _ _).mono ?_; rintro e w' ⟨rfl, n, rfl⟩)
              go_ret
              exact bb_of H.out (by repeat (first | with_reducible exact bl_refl _ | with_reducible assumption | with_reducible refine bl_set ?_ (by first | assumption | omega | (simp <;> omega)) _ | with_reducible refine bl_drewN ?_ _ | with_reducible refine bl_drew ?_ | with_reducible refine bl_alloc ?_ _ | with_reducible refine bl_call ?_ (by assumption)))
          · have H := Lib.hid (show hw x y z = true by simp [hw, nx, ny, nz, zx, zy])
            unfold ne0 at zx
            unfold ne0 at zy
            go_enter Try.func40, Try.ntmps40
            go_wp2_with (go_at_call 59; refine (isNaN_any _ _).mono ?_; rintro e w' ⟨rfl, n, rfl⟩)
            go_ret
            exact bb_of H.out (by repeat (first | with_reducible exact bl_refl _ | with_reducible assumption | with_reducible refine bl_set ?_ (by first | assumption | omega | (simp <;> omega)) _ | with_reducible refine bl_drewN ?_ _ | with_reducible refine bl_drew ?_ | with_reducible refine bl_alloc ?_ _ | with_reducible refine bl_call ?_ (by assumption)))
        · have H := Lib.hid (show hw x y z = true by simp [hw, nx, ny, nz, zx])
          unfold ne0 at zx
          go_enter Try.func40, Try.ntmps40
          go_wp2_with (go_at_call 59; refine (isNaN_any _ _).mono ?_; rintro e w' ⟨rfl, n, rfl⟩)
          go_ret
          exact bb_of H.out (by repeat (first | with_reducible exact bl_refl _ | with_reducible assumption | with_reducible refine bl_set ?_ (by first | assumption | omega | (simp <;> omega)) _ | with_reducible refine bl_drewN ?_ _ | with_reducible refine bl_drew ?_ | with_reducible refine bl_alloc ?_ _ | with_reducible refine bl_call ?_ (by assumption)))
      · have H := Lib.hid (show hw x y z = false by simp [hw, nx, ny, nz])
        go_enter Try.func40, Try.ntmps40
        go_wp2_with (go_at_call 59; refine (isNaN_any _ _).mono ?_; rintro e w' ⟨rfl, n, rfl⟩)
        go_ret
        exact bb_of H.out (by repeat (first | with_reducible exact bl_refl _ | with_reducible assumption | with_reducible refine bl_set ?_ (by first | assumption | omega | (simp <;> omega)) _ | with_reducible refine bl_drewN ?_ _ | with_reducible refine bl_drew ?_ | with_reducible refine bl_alloc ?_ _ | with_reducible refine bl_call ?_ (by assumption)))
    · have H := Lib.hid (show hw x y z = false by simp [hw, nx, ny])
      go_enter Try.func40, Try.ntmps40
      go_wp2_with (go_at_call 59; refine (isNaN_any _ _).mono ?_; rintro e w' ⟨rfl, n, rfl⟩)
      go_ret
      exact bb_of H.out (by repeat (first | with_reducible exact bl_refl _ | with_reducible assumption | with_reducible refine bl_set ?_ (by first | assumption | omega | (simp <;> omega)) _ | with_reducible refine bl_drewN ?_ _ | with_reducible refine bl_drew ?_ | with_reducible refine bl_alloc ?_ _ | with_reducible refine bl_call ?_ (by assumption)))
  · have H := Lib.hid (show hw x y z = false by simp [hw, nx])
    go_enter Try.func40, Try.ntmps40
    go_wp2_with (go_at_call 59; refine (isNaN_any _ _).mono ?_; rintro e w' ⟨rfl, n, rfl⟩)
    go_ret
    exact bb_of H.out (by repeat (first | with_reducible exact bl_refl _ | with_reducible assumption | with_reducible refine bl_set ?_ (by first | assumption | omega | (simp <;> omega)) _ | with_reducible refine bl_drewN ?_ _ | with_reducible refine bl_drew ?_ | with_reducible refine bl_alloc ?_ _ | with_reducible refine bl_call ?_ (by assumption)))
/-- A ray's six numbers, in a block. -/
def RayAt (w : World) (g fx fy fz wx wy wz : Nat) : Prop := g < w.heap.size ∧ w.cell? ⟨g, 0, none⟩ = some (.float .f32 fx) ∧ w.cell? ⟨g, 1, none⟩ = some (.float .f32 fy) ∧ w.cell? ⟨g, 2, none⟩ = some (.float .f32 fz) ∧ w.cell? ⟨g, 3, none⟩ = some (.float .f32 wx) ∧ w.cell? ⟨g, 4, none⟩ = some (.float .f32 wy) ∧ w.cell? ⟨g, 5, none⟩ = some (.float .f32 wz)
theorem RayAt.below {w w' : World} {g fx fy fz wx wy wz : Nat} (h : RayAt w g fx fy fz wx wy wz) (hb : Below w.heap.size w w') : RayAt w' g fx fy fz wx wy wz :=
  ⟨Nat.lt_of_lt_of_le h.1 hb.size, (hb.cell (p := ⟨g, 0, none⟩) h.1).trans h.2.1, (hb.cell (p := ⟨g, 1, none⟩) h.1).trans h.2.2.1, (hb.cell (p := ⟨g, 2, none⟩) h.1).trans h.2.2.2.1, (hb.cell (p := ⟨g, 3, none⟩) h.1).trans h.2.2.2.2.1, (hb.cell (p := ⟨g, 4, none⟩) h.1).trans h.2.2.2.2.2.1, (hb.cell (p := ⟨g, 5, none⟩) h.1).trans h.2.2.2.2.2.2⟩
theorem RayAt.box (w : World) (fx fy fz wx wy wz : Nat) (t : TypeId) : RayAt (w.alloc (.cells #[.float .f32 fx, .float .f32 fy, .float .f32 fz, .float .f32 wx, .float .f32 wy, .float .f32 wz] t)) w.heap.size fx fy fz wx wy wz := by simp [RayAt, go_sem]
/-- A vector's three numbers, in a block. -/
def VecIn (w : World) (g x y z : Nat) : Prop := g < w.heap.size ∧ w.cell? ⟨g, 0, none⟩ = some (.float .f32 x) ∧ w.cell? ⟨g, 1, none⟩ = some (.float .f32 y) ∧ w.cell? ⟨g, 2, none⟩ = some (.float .f32 z)
theorem VecIn.below {w w' : World} {g x y z : Nat} (h : VecIn w g x y z) (hb : Below w.heap.size w w') : VecIn w' g x y z :=
  ⟨Nat.lt_of_lt_of_le h.1 hb.size, (hb.cell (p := ⟨g, 0, none⟩) h.1).trans h.2.1, (hb.cell (p := ⟨g, 1, none⟩) h.1).trans h.2.2.1, (hb.cell (p := ⟨g, 2, none⟩) h.1).trans h.2.2.2⟩
theorem VecIn.box (w : World) (x y z : Nat) (t : TypeId) : VecIn (w.alloc (.cells #[.float .f32 x, .float .f32 y, .float .f32 z] t)) w.heap.size x y z := by simp [VecIn, go_sem]
set_option maxHeartbeats 1000000 in
theorem l03Is_any (g fx fy fz wx wy wz : Nat) (w : World) (h : RayAt w g fx fy fz wx wy wz) : Calls Try.prog 38 #[.pointer (some ⟨g, 0, none⟩)] w (BB w (rayB fx fy fz wx wy wz)) := by
  have h' := Lib.hid h
  obtain ⟨hg, c0, c1, c2, c3, c4, c5⟩ := h
  go_enter Try.func38, Try.ntmps38
  go_wp2_with fail
  refine (l03Unit_any _ _ _ _).mono ?_
  rintro e w1 ⟨r, s, t, hr, hs, ht, rfl, hb⟩
  have HU := Lib.hid (hwU_of hr hs ht)
  clear hr hs ht
  have h1' := Lib.hid ((h'.out.below hb).below (bl_alloc (bl_refl _) (.cells #[.float .f32 r, .float .f32 s, .float .f32 t] 30)))
  have v1' := Lib.hid (VecIn.box w1 r s t 30)
  have hsz := hb.size
  obtain ⟨hg1, a0, a1, a2, a3, a4, a5⟩ := h1'.out
  clear c0 c1 c2 c3 c4 c5 h'
  go_wp2_with fail
  refine (l01VFinite_any _ _ _ _).mono ?_
  rintro e w2 ⟨rfl, hb2⟩
  have v2' := Lib.hid (v1'.out.below hb2)
  obtain ⟨hv, b0, b1, b2⟩ := v2'.out
  clear a0 a1 a2 a3 a4 a5
  cases hf : fin3B fx fy fz
  · have H := Lib.hid (show rayB fx fy fz wx wy wz = false by rw [rayB, hf]; rfl)
    go_wp2_with fail
    go_ret
    exact bb_of H.out (by repeat (first | with_reducible exact bl_refl _ | with_reducible assumption | with_reducible refine bl_set ?_ (by first | assumption | omega | (simp <;> omega)) _ | with_reducible refine bl_drewN ?_ _ | with_reducible refine bl_drew ?_ | with_reducible refine bl_alloc ?_ _ | with_reducible refine bl_call ?_ (by assumption)))
  · cases nx : isNan .f32 r
    · cases ny : isNan .f32 s
      · cases nz : isNan .f32 t
        · cases zx : ne0 r
          · cases zy : ne0 s
            · cases zz : ne0 t
              · have H := Lib.hid (show rayB fx fy fz wx wy wz = false by rw [rayB, hf, HU.out]; simp [hw, nx, ny, nz, zx, zy, zz])
                have qnx := self_of nx
                have qny := self_of ny
                have qnz := self_of nz
                unfold ne0 at zx
                unfold ne0 at zy
                unfold ne0 at zz
                go_wp2_with fail
                go_ret
                exact bb_of H.out (by repeat (first | with_reducible exact bl_refl _ | with_reducible assumption | with_reducible refine bl_set ?_ (by first | assumption | omega | (simp <;> omega)) _ | with_reducible refine bl_drewN ?_ _ | with_reducible refine bl_drew ?_ | with_reducible refine bl_alloc ?_ _ | with_reducible refine bl_call ?_ (by assumption)))
              · have H := Lib.hid (show rayB fx fy fz wx wy wz = true by rw [rayB, hf, HU.out]; simp [hw, nx, ny, nz, zx, zy, zz])
                have qnx := self_of nx
                have qny := self_of ny
                have qnz := self_of nz
                unfold ne0 at zx
                unfold ne0 at zy
                unfold ne0 at zz
                go_wp2_with fail
                go_ret
                exact bb_of H.out (by repeat (first | with_reducible exact bl_refl _ | with_reducible assumption | with_reducible refine bl_set ?_ (by first | assumption | omega | (simp <;> omega)) _ | with_reducible refine bl_drewN ?_ _ | with_reducible refine bl_drew ?_ | with_reducible refine bl_alloc ?_ _ | with_reducible refine bl_call ?_ (by assumption)))
            · have H := Lib.hid (show rayB fx fy fz wx wy wz = true by rw [rayB, hf, HU.out]; simp [hw, nx, ny, nz, zx, zy])
              have qnx := self_of nx
              have qny := self_of ny
              have qnz := self_of nz
              unfold ne0 at zx
              unfold ne0 at zy
              go_wp2_with fail
              go_ret
              exact bb_of H.out (by repeat (first | with_reducible exact bl_refl _ | with_reducible assumption | with_reducible refine bl_set ?_ (by first | assumption | omega | (simp <;> omega)) _ | with_reducible refine bl_drewN ?_ _ | with_reducible refine bl_drew ?_ | with_reducible refine bl_alloc ?_ _ | with_reducible refine bl_call ?_ (by assumption)))
          · have H := Lib.hid (show rayB fx fy fz wx wy wz = true by rw [rayB, hf, HU.out]; simp [hw, nx, ny, nz, zx])
            have qnx := self_of nx
            have qny := self_of ny
            have qnz := self_of nz
            unfold ne0 at zx
            go_wp2_with fail
            go_ret
            exact bb_of H.out (by repeat (first | with_reducible exact bl_refl _ | with_reducible assumption | with_reducible refine bl_set ?_ (by first | assumption | omega | (simp <;> omega)) _ | with_reducible refine bl_drewN ?_ _ | with_reducible refine bl_drew ?_ | with_reducible refine bl_alloc ?_ _ | with_reducible refine bl_call ?_ (by assumption)))
        · have H := Lib.hid (show rayB fx fy fz wx wy wz = false by rw [rayB, hf, HU.out]; simp [hw, nx, ny, nz])
          have qnx := self_of nx
          have qny := self_of ny
          have qnz := self_not nz
          go_wp2_with fail
          go_ret
          exact bb_of H.out (by repeat (first | with_reducible exact bl_refl _ | with_reducible assumption | with_reducible refine bl_set ?_ (by first | assumption | omega | (simp <;> omega)) _ | with_reducible refine bl_drewN ?_ _ | with_reducible refine bl_drew ?_ | with_reducible refine bl_alloc ?_ _ | with_reducible refine bl_call ?_ (by assumption)))
      · have H := Lib.hid (show rayB fx fy fz wx wy wz = false by rw [rayB, hf, HU.out]; simp [hw, nx, ny])
        have qnx := self_of nx
        have qny := self_not ny
        go_wp2_with fail
        go_ret
        exact bb_of H.out (by repeat (first | with_reducible exact bl_refl _ | with_reducible assumption | with_reducible refine bl_set ?_ (by first | assumption | omega | (simp <;> omega)) _ | with_reducible refine bl_drewN ?_ _ | with_reducible refine bl_drew ?_ | with_reducible refine bl_alloc ?_ _ | with_reducible refine bl_call ?_ (by assumption)))
    · have H := Lib.hid (show rayB fx fy fz wx wy wz = false by rw [rayB, hf, HU.out]; simp [hw, nx])
      have qnx := self_not nx
      go_wp2_with fail
      go_ret
      exact bb_of H.out (by repeat (first | with_reducible exact bl_refl _ | with_reducible assumption | with_reducible refine bl_set ?_ (by first | assumption | omega | (simp <;> omega)) _ | with_reducible refine bl_drewN ?_ _ | with_reducible refine bl_drew ?_ | with_reducible refine bl_alloc ?_ _ | with_reducible refine bl_call ?_ (by assumption)))
theorem spec_ValidRay_any (fx fy fz wx wy wz : Nat) (w : World) : Calls Try.prog 18 #[.agg #[.float .f32 fx, .float .f32 fy, .float .f32 fz, .float .f32 wx, .float .f32 wy, .float .f32 wz]] w (BB w (rayB fx fy fz wx wy wz)) := by
  have h := RayAt.box w fx fy fz wx wy wz 37
  go_enter Try.func18, Try.ntmps18
  go_wp2_with (go_at_call 38; refine (l03Is_any _ _ _ _ _ _ _ _ h).mono ?_; rintro e w1 ⟨rfl, hb⟩)
  go_ret
  exact ⟨rfl, bl_call (bl_alloc (bl_refl _) _) hb⟩
theorem ValidRay_any (fx fy fz wx wy wz : Nat) (w : World) : Calls Try.prog 20 #[.agg #[.float .f32 fx, .float .f32 fy, .float .f32 fz, .float .f32 wx, .float .f32 wy, .float .f32 wz]] w (BB w (rayB fx fy fz wx wy wz)) := by
  have h0 := Lib.hid (RayAt.box w fx fy fz wx wy wz 37)
  go_enter Try.func20, Try.ntmps20
  go_wp2_with fail
  refine (finiteVector_any _ _ _ _).mono ?_
  rintro e w1 ⟨rfl, hb⟩
  obtain ⟨hg1, a0, a1, a2, a3, a4, a5⟩ := h0.out.below hb
  cases hf : fin3B fx fy fz
  · have H := Lib.hid (show rayB fx fy fz wx wy wz = false by rw [rayB, hf]; rfl)
    go_wp2_with fail
    go_ret
    exact bb_of H.out (by repeat (first | with_reducible exact bl_refl _ | with_reducible assumption | with_reducible refine bl_set ?_ (by first | assumption | omega | (simp <;> omega)) _ | with_reducible refine bl_drewN ?_ _ | with_reducible refine bl_drew ?_ | with_reducible refine bl_alloc ?_ _ | with_reducible refine bl_call ?_ (by assumption)))
  · go_wp2_with fail
    refine (UnitOf_any _ _ _ _).mono ?_
    rintro e w2 ⟨r, s, t, hr, hs, ht, rfl, hb2⟩
    have H := Lib.hid (show rayB fx fy fz wx wy wz = hw r s t by rw [rayB, hf, hwU_of hr hs ht]; rfl)
    clear hr hs ht
    go_wp2_with (go_at_call 40; refine (hasWay_any _ _ _ _).mono ?_; rintro e w3 ⟨rfl, hb3⟩)
    go_ret
    exact bb_of H.out (by repeat (first | with_reducible exact bl_refl _ | with_reducible assumption | with_reducible refine bl_set ?_ (by first | assumption | omega | (simp <;> omega)) _ | with_reducible refine bl_drewN ?_ _ | with_reducible refine bl_drew ?_ | with_reducible refine bl_alloc ?_ _ | with_reducible refine bl_call ?_ (by assumption)))
/-- Six numbers in a block that may be written. -/
def Six (W : World) (g a b c d e f : Nat) : Prop := RayAt W g a b c d e f ∧ W.frozen? ⟨g, 0, none⟩ = false ∧ W.frozen? ⟨g, 1, none⟩ = false ∧ W.frozen? ⟨g, 2, none⟩ = false ∧ W.frozen? ⟨g, 3, none⟩ = false ∧ W.frozen? ⟨g, 4, none⟩ = false ∧ W.frozen? ⟨g, 5, none⟩ = false
theorem Six.below {w w' : World} {g a b c d e f : Nat} (h : Six w g a b c d e f) (hb : Below w.heap.size w w') : Six w' g a b c d e f :=
  ⟨h.1.below hb, (hb.frozen (p := ⟨g, 0, none⟩) h.1.1).trans h.2.1, (hb.frozen (p := ⟨g, 1, none⟩) h.1.1).trans h.2.2.1, (hb.frozen (p := ⟨g, 2, none⟩) h.1.1).trans h.2.2.2.1, (hb.frozen (p := ⟨g, 3, none⟩) h.1.1).trans h.2.2.2.2.1, (hb.frozen (p := ⟨g, 4, none⟩) h.1.1).trans h.2.2.2.2.2.1, (hb.frozen (p := ⟨g, 5, none⟩) h.1.1).trans h.2.2.2.2.2.2⟩
theorem Six.box (w : World) (g fx fy fz wx wy wz : Nat) (t : TypeId) (hg : g = w.heap.size) : Six (w.alloc (.cells #[.float .f32 fx, .float .f32 fy, .float .f32 fz, .float .f32 wx, .float .f32 wy, .float .f32 wz] t)) g fx fy fz wx wy wz := by subst hg; simp [Six, RayAt, go_sem]
theorem Six.alloc {w : World} {g a b c d e f : Nat} (h : Six w g a b c d e f) (o : Obj) : Six (w.alloc o) g a b c d e f := h.below (bl_alloc (bl_refl _) _)
theorem Six.first {w : World} {g a b c d e f : Nat} (h : Six w g a b c d e f) (x y z : Nat) : Six (((w.setCell ⟨g, 0, none⟩ (.float .f32 x)).setCell ⟨g, 1, none⟩ (.float .f32 y)).setCell ⟨g, 2, none⟩ (.float .f32 z)) g x y z d e f := by
  obtain ⟨⟨hg, c0, c1, c2, c3, c4, c5⟩, f0, f1, f2, f3, f4, f5⟩ := h
  refine ⟨⟨by simpa [World.setCell] using hg, ?_⟩, ?_⟩ <;> simp [go_sem, *]
theorem Six.far {w : World} {g g' a b c d e f : Nat} (h : Six w g a b c d e f) (hg : ¬ g' = g) (x y z : Nat) : Six (((w.setCell ⟨g', 0, none⟩ (.float .f32 x)).setCell ⟨g', 1, none⟩ (.float .f32 y)).setCell ⟨g', 2, none⟩ (.float .f32 z)) g a b c d e f := by
  obtain ⟨⟨hs, c0, c1, c2, c3, c4, c5⟩, f0, f1, f2, f3, f4, f5⟩ := h
  have hg' : ∀ i o, (⟨g', i, none⟩ : Addr).block ≠ (⟨g, o, none⟩ : Addr).block := fun _ _ => hg
  refine ⟨⟨by simpa [World.setCell] using hs, ?_⟩, ?_⟩ <;> simp [World.cell?_setCell_far, go_sem, *]
theorem toRay_any (fx fy fz wx wy wz : Nat) (w : World) : Calls Try.prog 19 #[.agg #[.float .f32 fx, .float .f32 fy, .float .f32 fz, .float .f32 wx, .float .f32 wy, .float .f32 wz]] w
    fun e w' => e = .returned (.agg #[.float .f32 fx, .float .f32 fy, .float .f32 fz, .float .f32 wx, .float .f32 wy, .float .f32 wz]) ∧ Below w.heap.size w w' := by
  have s0 := Lib.hid (((Six.box w w.heap.size fx fy fz wx wy wz 34 rfl).alloc (.cells #[.float .f32 0, .float .f32 0, .float .f32 0, .float .f32 0, .float .f32 0, .float .f32 0] 37)).alloc (.cells #[.float .f32 0, .float .f32 0, .float .f32 0, .float .f32 0, .float .f32 0, .float .f32 0] 37))
  have s1 := Lib.hid ((Six.box (w.alloc (.cells #[.float .f32 fx, .float .f32 fy, .float .f32 fz, .float .f32 wx, .float .f32 wy, .float .f32 wz] 34)) (w.heap.size + 1) 0 0 0 0 0 0 37 (by simp)).alloc (.cells #[.float .f32 0, .float .f32 0, .float .f32 0, .float .f32 0, .float .f32 0, .float .f32 0] 37))
  have s2 := Lib.hid (Six.box ((w.alloc (.cells #[.float .f32 fx, .float .f32 fy, .float .f32 fz, .float .f32 wx, .float .f32 wy, .float .f32 wz] 34)).alloc (.cells #[.float .f32 0, .float .f32 0, .float .f32 0, .float .f32 0, .float .f32 0, .float .f32 0] 37)) (w.heap.size + 1 + 1) 0 0 0 0 0 0 37 (by simp))
  go_enter Try.func19, Try.ntmps19
  go_wp2_with fail
  refine (toVector_any _ _ _ _).mono ?_
  rintro e w1 ⟨rfl, hb⟩
  have t0 := Lib.hid (s0.out.below hb)
  have t1 := Lib.hid (s1.out.below hb)
  have t2 := Lib.hid (s2.out.below hb)
  clear s0 s1 s2
  have hz := hb.size
  simp at hz
  obtain ⟨⟨g2, c0, c1, c2, c3, c4, c5⟩, f0, f1, f2, f3, f4, f5⟩ := t2.out
  obtain ⟨⟨g0, b0, b1, b2, b3, b4, b5⟩, _⟩ := t0.out
  go_wp2_with fail
  clear g2 c0 c1 c2 c3 c4 c5 f0 f1 f2 f3 f4 f5 g0 b0 b1 b2 b3 b4 b5
  refine (toVector_any _ _ _ _).mono ?_
  rintro e w2 ⟨rfl, hb2⟩
  have u1 := Lib.hid ((t1.out.far (g' := w.heap.size + 1 + 1) (by omega) fx fy fz).below hb2)
  have u2 := Lib.hid ((t2.out.first fx fy fz).below hb2)
  have hz2 := hb2.size
  simp at hz2
  have hb3 := bl_call (bl_set (bl_set (bl_set (bl_call (bl_alloc (bl_alloc (bl_alloc (bl_refl w) _) _) _) hb) (a := ⟨w.heap.size + 1 + 1, 0, none⟩) (by simp; omega) (.float .f32 fx)) (a := ⟨w.heap.size + 1 + 1, 1, none⟩) (by simp; omega) (.float .f32 fy)) (a := ⟨w.heap.size + 1 + 1, 2, none⟩) (by simp; omega) (.float .f32 fz)) hb2
  clear hb hb2 t0 t1 t2
  obtain ⟨⟨g2, c0, c1, c2, c3, c4, c5⟩, f0, f1, f2, f3, f4, f5⟩ := u2.out
  obtain ⟨⟨g1, d0, d1, d2, d3, d4, d5⟩, k0, k1, k2, k3, k4, k5⟩ := u1.out
  go_wp2_with fail
  refine bodyPost_ret (v := .agg #[.float .f32 fx, .float .f32 fy, .float .f32 fz, .float .f32 wx, .float .f32 wy, .float .f32 wz]) (by simp [results, Try.results19, go_sem, *]) rfl ⟨rfl, ?_⟩
  clear c0 c1 c2 c3 c4 c5 f0 f1 f2 f3 f4 f5 d0 d1 d2 d3 d4 d5 k0 k1 k2 k3 k4 k5
  (repeat (first | with_reducible exact hb3 | with_reducible refine bl_set ?_ (by simp <;> omega) _))
/-- What lies in a cell. -/
def cellV (w : World) (h i : Nat) : Value := (w.cell? ⟨h, i, none⟩).getD undef
theorem cellV_of {w : World} {h i : Nat} {v : Value} (k : w.cell? ⟨h, i, none⟩ = some v) : w.cell? ⟨h, i, none⟩ = some (cellV w h i) := by unfold cellV; rw [k]; rfl
/-- A ray's six numbers in a block, and three cells in another one that may be written. -/
def OnS (w : World) (g h fx fy fz wx wy wz : Nat) : Prop := RayAt w g fx fy fz wx wy wz ∧ h < w.heap.size ∧ w.cell? ⟨h, 0, none⟩ = some (cellV w h 0) ∧ w.cell? ⟨h, 1, none⟩ = some (cellV w h 1) ∧ w.cell? ⟨h, 2, none⟩ = some (cellV w h 2) ∧ w.frozen? ⟨h, 0, none⟩ = false ∧ w.frozen? ⟨h, 1, none⟩ = false ∧ w.frozen? ⟨h, 2, none⟩ = false
theorem OnS.below {w w' : World} {g h fx fy fz wx wy wz : Nat} (k : OnS w g h fx fy fz wx wy wz) (hb : Below w.heap.size w w') : OnS w' g h fx fy fz wx wy wz :=
  ⟨k.1.below hb, Nat.lt_of_lt_of_le k.2.1 hb.size, cellV_of ((hb.cell (p := ⟨h, 0, none⟩) k.2.1).trans k.2.2.1), cellV_of ((hb.cell (p := ⟨h, 1, none⟩) k.2.1).trans k.2.2.2.1), cellV_of ((hb.cell (p := ⟨h, 2, none⟩) k.2.1).trans k.2.2.2.2.1), (hb.frozen (p := ⟨h, 0, none⟩) k.2.1).trans k.2.2.2.2.2.1, (hb.frozen (p := ⟨h, 1, none⟩) k.2.1).trans k.2.2.2.2.2.2.1, (hb.frozen (p := ⟨h, 2, none⟩) k.2.1).trans k.2.2.2.2.2.2.2⟩
theorem OnS.new {w : World} {g fx fy fz wx wy wz : Nat} (k : RayAt w g fx fy fz wx wy wz) (t : TypeId) : OnS (w.alloc (.cells #[.float .f32 0, .float .f32 0, .float .f32 0] t)).drew g w.heap.size fx fy fz wx wy wz :=
  ⟨k.below (bl_drew (bl_alloc (bl_refl _) _)), by simp, cellV_of (v := .float .f32 0) (by simp [go_sem]), cellV_of (v := .float .f32 0) (by simp [go_sem]), cellV_of (v := .float .f32 0) (by simp [go_sem]), by simp [go_sem]⟩
theorem OnS.set {w : World} {g h fx fy fz wx wy wz : Nat} (k : OnS w g h fx fy fz wx wy wz) (hne : ¬ g = h) (x y z : Nat) : OnS (((w.setCell ⟨h, 0, none⟩ (.float .f32 x)).setCell ⟨h, 1, none⟩ (.float .f32 y)).setCell ⟨h, 2, none⟩ (.float .f32 z)) g h fx fy fz wx wy wz := by
  obtain ⟨⟨hs, c0, c1, c2, c3, c4, c5⟩, hh, d0, d1, d2, f0, f1, f2⟩ := k
  have hg' : ∀ i o, (⟨h, i, none⟩ : Addr).block ≠ (⟨g, o, none⟩ : Addr).block := fun _ _ e => hne e.symm
  refine ⟨⟨by simpa [World.setCell] using hs, ?_⟩, by simpa [World.setCell] using hh, cellV_of (v := .float .f32 x) ?_, cellV_of (v := .float .f32 y) ?_, cellV_of (v := .float .f32 z) ?_, ?_⟩
  · simp [go_sem, *]
  all_goals (clear hg'; simp [go_sem, *])
def placeC (l f u far : Nat) : Nat := fop .add .f32 f (fop .mul .f32 (unitC l u) far)
theorem place_is {l f u far a b c : Nat} (ha : Is .f32 a (unitC l u)) (hb : Is .f32 b (fop .mul .f32 a far)) (hc : Is .f32 c (fop .add .f32 f b)) : Is .f32 c (placeC l f u far) := by
  unfold placeC
  exact hc.op rfl (hb.op ha.cn rfl).cn
def PlaceOut (w : World) (fx fy fz wx wy wz far : Nat) : Ending → World → Prop := VB w (placeC (longF wx wy wz) fx wx far) (placeC (longF wx wy wz) fy wy far) (placeC (longF wx wy wz) fz wz far)
set_option maxHeartbeats 1000000 in
theorem l03On_any (g fx fy fz wx wy wz far : Nat) (w : World) (h : RayAt w g fx fy fz wx wy wz) : Calls Try.prog 46 #[.pointer (some ⟨g, 0, none⟩), .float .f32 far] w (PlaceOut w fx fy fz wx wy wz far) := by
  have h' := Lib.hid h
  obtain ⟨hg, c0, c1, c2, c3, c4, c5⟩ := h
  have hne : ¬ w.heap.size = g := by omega
  have hne' : ¬ g = w.heap.size := by omega
  go_enter Try.func46, Try.ntmps46
  go_wp2
  go_region_held3 (fun w' => (g < w'.heap.size ∧ w'.cell? ⟨g, 0, none⟩ = some (.float .f32 fx) ∧ w'.cell? ⟨g, 1, none⟩ = some (.float .f32 fy) ∧ w'.cell? ⟨g, 2, none⟩ = some (.float .f32 fz) ∧ w'.cell? ⟨g, 3, none⟩ = some (.float .f32 wx) ∧ w'.cell? ⟨g, 4, none⟩ = some (.float .f32 wy) ∧ w'.cell? ⟨g, 5, none⟩ = some (.float .f32 wz)) ∧ w.heap.size < w'.heap.size ∧ w'.cell? ⟨w.heap.size, 0, none⟩ = some (cellV w' w.heap.size 0) ∧ w'.cell? ⟨w.heap.size, 1, none⟩ = some (cellV w' w.heap.size 1) ∧ w'.cell? ⟨w.heap.size, 2, none⟩ = some (cellV w' w.heap.size 2) ∧ w'.frozen? ⟨w.heap.size, 0, none⟩ = false ∧ w'.frozen? ⟨w.heap.size, 1, none⟩ = false ∧ w'.frozen? ⟨w.heap.size, 2, none⟩ = false) (first | exact OnS.new h'.out _ | (refine OnS.below ?_ (by assumption); assumption) | (refine OnS.below ?_ (bl_alloc (bl_refl _) _); assumption) | (refine OnS.set ?_ hne' _ _ _; assumption))
   (first | (go_at_call 41; refine (l03Unit_any _ _ _ _).mono ?_; rintro e w1 ⟨r, s, t, hr, hs, ht, rfl, hb⟩) | (go_at_call 61; refine (l01Scale_any _ _ _ _ _).mono ?_; rintro e w2 ⟨r2, s2, t2, hr2, hs2, ht2, rfl, hb2⟩) | (go_at_call 66; refine (l01Add_any _ _ _ _ _ _ _).mono ?_; rintro e w3 ⟨r3, s3, t3, hr3, hs3, ht3, rfl, hb3⟩))
  rename_i hHeld
  clear hHeld
  obtain ⟨_, hh, d0, d1, d2, e0, e1, e2⟩ := ((OnS.new h'.out 30).below hb).below (bl_call hb2 hb3)
  go_wp2_with fail
  exact bodyPost_ret (v := .agg #[.float .f32 r3, .float .f32 s3, .float .f32 t3]) (by simp [results, Try.results46, go_sem, *]) rfl ⟨_, _, _, place_is hr hr2 hr3, place_is hs hs2 hs3, place_is ht ht2 ht3, rfl,
    bl_set (bl_set (bl_set (bl_call (bl_call (bl_call (bl_drew (bl_alloc (bl_refl w) _)) hb) hb2) hb3) (Nat.le_refl _) _) (Nat.le_refl _) _) (Nat.le_refl _) _⟩
set_option maxHeartbeats 1000000 in
theorem on_any (g fx fy fz wx wy wz far : Nat) (w : World) (h : RayAt w g fx fy fz wx wy wz) : Calls Try.prog 47 #[.pointer (some ⟨g, 0, none⟩), .float .f32 far] w (PlaceOut w fx fy fz wx wy wz far) := by
  have h' := Lib.hid h
  obtain ⟨hg, c0, c1, c2, c3, c4, c5⟩ := h
  have hne : ¬ w.heap.size = g := by omega
  have hne' : ¬ g = w.heap.size := by omega
  go_enter Try.func47, Try.ntmps47
  go_wp2
  go_region_held3 (fun w' => (g < w'.heap.size ∧ w'.cell? ⟨g, 0, none⟩ = some (.float .f32 fx) ∧ w'.cell? ⟨g, 1, none⟩ = some (.float .f32 fy) ∧ w'.cell? ⟨g, 2, none⟩ = some (.float .f32 fz) ∧ w'.cell? ⟨g, 3, none⟩ = some (.float .f32 wx) ∧ w'.cell? ⟨g, 4, none⟩ = some (.float .f32 wy) ∧ w'.cell? ⟨g, 5, none⟩ = some (.float .f32 wz)) ∧ w.heap.size < w'.heap.size ∧ w'.cell? ⟨w.heap.size, 0, none⟩ = some (cellV w' w.heap.size 0) ∧ w'.cell? ⟨w.heap.size, 1, none⟩ = some (cellV w' w.heap.size 1) ∧ w'.cell? ⟨w.heap.size, 2, none⟩ = some (cellV w' w.heap.size 2) ∧ w'.frozen? ⟨w.heap.size, 0, none⟩ = false ∧ w'.frozen? ⟨w.heap.size, 1, none⟩ = false ∧ w'.frozen? ⟨w.heap.size, 2, none⟩ = false) (first | exact OnS.new h'.out _ | (refine OnS.below ?_ (by assumption); assumption) | (refine OnS.below ?_ (bl_alloc (bl_refl _) _); assumption) | (refine OnS.set ?_ hne' _ _ _; assumption))
   (first | (go_at_call 22; refine (UnitOf_any _ _ _ _).mono ?_; rintro e w1 ⟨r, s, t, hr, hs, ht, rfl, hb⟩) | (go_at_call 43; refine (ScaleVector_any _ _ _ _ _).mono ?_; rintro e w2 ⟨r2, s2, t2, hr2, hs2, ht2, rfl, hb2⟩) | (go_at_call 67; refine (AddVectors_any _ _ _ _ _ _ _).mono ?_; rintro e w3 ⟨r3, s3, t3, hr3, hs3, ht3, rfl, hb3⟩))
  rename_i hHeld
  clear hHeld
  obtain ⟨_, hh, d0, d1, d2, e0, e1, e2⟩ := ((OnS.new h'.out 30).below hb).below (bl_call hb2 hb3)
  go_wp2_with fail
  exact bodyPost_ret (v := .agg #[.float .f32 r3, .float .f32 s3, .float .f32 t3]) (by simp [results, Try.results47, go_sem, *]) rfl ⟨_, _, _, place_is hr hr2 hr3, place_is hs hs2 hs3, place_is ht ht2 ht3, rfl,
    bl_set (bl_set (bl_set (bl_call (bl_call (bl_call (bl_drew (bl_alloc (bl_refl w) _)) hb) hb2) hb3) (Nat.le_refl _) _) (Nat.le_refl _) _) (Nat.le_refl _) _⟩
theorem OnS.new2 {w : World} {g fx fy fz wx wy wz : Nat} (k : RayAt w g fx fy fz wx wy wz) (t : TypeId) (h : Nat) (hh : h = w.heap.size) : OnS (w.alloc (.cells #[.float .f32 0, .float .f32 0, .float .f32 0] t)) g h fx fy fz wx wy wz := by
  subst hh; exact OnS.new k t
/-- The place, if the ray is right; else zeros. -/
def plc (ok : Bool) (l f u far : Nat) : Nat := if ok then placeC l f u far else 0
def PT (w : World) (fx fy fz wx wy wz far : Nat) : Ending → World → Prop := fun e w' => ∃ r s t, Is .f32 r (plc (rayB fx fy fz wx wy wz) (longF wx wy wz) fx wx far) ∧ Is .f32 s (plc (rayB fx fy fz wx wy wz) (longF wx wy wz) fy wy far) ∧ Is .f32 t (plc (rayB fx fy fz wx wy wz) (longF wx wy wz) fz wz far) ∧
  e = .returned (.tuple #[.agg #[.float .f32 r, .float .f32 s, .float .f32 t], .bool (rayB fx fy fz wx wy wz)]) ∧ Below w.heap.size w w'
theorem PT_yes {w w' : World} {fx fy fz wx wy wz far r s t : Nat} (h : rayB fx fy fz wx wy wz = true) (hr : Is .f32 r (placeC (longF wx wy wz) fx wx far)) (hs : Is .f32 s (placeC (longF wx wy wz) fy wy far)) (ht : Is .f32 t (placeC (longF wx wy wz) fz wz far)) (hb : Below w.heap.size w w') :
    PT w fx fy fz wx wy wz far (.returned (.tuple #[.agg #[.float .f32 r, .float .f32 s, .float .f32 t], .bool true])) w' :=
  ⟨r, s, t, by rw [h]; exact hr, by rw [h]; exact hs, by rw [h]; exact ht, by rw [h], hb⟩
theorem PT_no {w w' : World} {fx fy fz wx wy wz far : Nat} (h : rayB fx fy fz wx wy wz = false) (hb : Below w.heap.size w w') :
    PT w fx fy fz wx wy wz far (.returned (.tuple #[.agg #[.float .f32 0, .float .f32 0, .float .f32 0], .bool false])) w' :=
  ⟨0, 0, 0, by rw [h]; exact Is.refl (by decide), by rw [h]; exact Is.refl (by decide), by rw [h]; exact Is.refl (by decide), by rw [h], hb⟩
set_option maxHeartbeats 1000000 in
theorem PlaceOn_any (fx fy fz wx wy wz far : Nat) (w : World) : Calls Try.prog 27 #[.agg #[.float .f32 fx, .float .f32 fy, .float .f32 fz, .float .f32 wx, .float .f32 wy, .float .f32 wz], .float .f32 far] w (PT w fx fy fz wx wy wz far) := by
  have k0 := Lib.hid (OnS.new2 (RayAt.box w fx fy fz wx wy wz 37) 30 (w.heap.size + 1) (by simp))
  go_enter Try.func27, Try.ntmps27
  go_wp2_with fail
  refine (ValidRay_any _ _ _ _ _ _ _).mono ?_
  rintro e w1 ⟨rfl, hb⟩
  have k1 := Lib.hid (k0.out.below hb)
  obtain ⟨⟨hg, c0, c1, c2, c3, c4, c5⟩, hh, d0, d1, d2, e0, e1, e2⟩ := k1.out
  have hz := hb.size
  simp at hz
  cases hR : rayB fx fy fz wx wy wz
  · have H := Lib.hid hR
    go_wp2_with fail
    refine bodyPost_ret (v := .tuple #[.agg #[.float .f32 0, .float .f32 0, .float .f32 0], .bool false]) (by simp [results, Try.results27, go_sem, *]) rfl (PT_no H.out ?_)
    exact bl_set (bl_set (bl_set (bl_call (bl_alloc (bl_alloc (bl_refl w) _) _) hb) (by simp) _) (by simp) _) (by simp) _
  · have H := Lib.hid hR
    go_wp2_with fail
    refine (on_any _ _ _ _ _ _ _ _ _ k1.out.1).mono ?_
    rintro e w2 ⟨r, s, t, hr, hs, ht, rfl, hb2⟩
    obtain ⟨⟨hg', a0, a1, a2, a3, a4, a5⟩, hh', b0, b1, b2, z0, z1, z2⟩ := k1.out.below hb2
    clear hg c0 c1 c2 c3 c4 c5 hh d0 d1 d2 e0 e1 e2
    go_wp2_with fail
    refine bodyPost_ret (v := .tuple #[.agg #[.float .f32 r, .float .f32 s, .float .f32 t], .bool true]) (by simp [results, Try.results27, go_sem, *]) rfl (PT_yes H.out hr hs ht ?_)
    exact bl_set (bl_set (bl_set (bl_call (bl_call (bl_alloc (bl_alloc (bl_refl w) _) _) hb) hb2) (by simp) _) (by simp) _) (by simp) _
set_option maxHeartbeats 1000000 in
theorem spec_PlaceOn_any (fx fy fz wx wy wz far : Nat) (w : World) : Calls Try.prog 26 #[.agg #[.float .f32 fx, .float .f32 fy, .float .f32 fz, .float .f32 wx, .float .f32 wy, .float .f32 wz], .float .f32 far] w (PT w fx fy fz wx wy wz far) := by
  have k0 := Lib.hid (OnS.new2 (RayAt.box w fx fy fz wx wy wz 37) 30 (w.heap.size + 1) (by simp))
  go_enter Try.func26, Try.ntmps26
  go_wp2_with fail
  refine (l03Is_any _ _ _ _ _ _ _ _ (by first | exact k0.out.1 | exact h1.1)).mono ?_
  rintro e w1 ⟨rfl, hb⟩
  have k1 := Lib.hid (k0.out.below hb)
  obtain ⟨⟨hg, c0, c1, c2, c3, c4, c5⟩, hh, d0, d1, d2, e0, e1, e2⟩ := k1.out
  have hz := hb.size
  simp at hz
  cases hR : rayB fx fy fz wx wy wz
  · have H := Lib.hid hR
    go_wp2_with fail
    refine bodyPost_ret (v := .tuple #[.agg #[.float .f32 0, .float .f32 0, .float .f32 0], .bool false]) (by simp [results, Try.results26, go_sem, *]) rfl (PT_no H.out ?_)
    exact bl_set (bl_set (bl_set (bl_call (bl_alloc (bl_alloc (bl_refl w) _) _) hb) (by simp) _) (by simp) _) (by simp) _
  · have H := Lib.hid hR
    go_wp2_with fail
    refine (l03On_any _ _ _ _ _ _ _ _ _ k1.out.1).mono ?_
    rintro e w2 ⟨r, s, t, hr, hs, ht, rfl, hb2⟩
    obtain ⟨⟨hg', a0, a1, a2, a3, a4, a5⟩, hh', b0, b1, b2, z0, z1, z2⟩ := k1.out.below hb2
    clear hg c0 c1 c2 c3 c4 c5 hh d0 d1 d2 e0 e1 e2
    go_wp2_with fail
    refine bodyPost_ret (v := .tuple #[.agg #[.float .f32 r, .float .f32 s, .float .f32 t], .bool true]) (by simp [results, Try.results26, go_sem, *]) rfl (PT_yes H.out hr hs ht ?_)
    exact bl_set (bl_set (bl_set (bl_call (bl_call (bl_alloc (bl_alloc (bl_refl w) _) _) hb) hb2) (by simp) _) (by simp) _) (by simp) _
section
open Go.WideShapes Go.ChangeShapes Go.WideElems Go.Deep Go.Maps
variable {H : Type} {enc : TypeId × Value → H} {P : Program} {w : World} {base : Nat} {spare : Nat → Bool} {held : Bool}
theorem trod_vec {fuel : Nat} {t : TypeId} {f0 f1 f2 : Field} {cs : List Value} {x : DataW H × List MemPlace} (hs : P.underlying t = some (.struct #[f0, f1, f2])) (hone : oneCellFields P #[f0, f1, f2] = true) (hC : P.cellsOf t = 3)
    (hf0 : P.underlying f0.type = some (.float .f32)) (hf1 : P.underlying f1.type = some (.float .f32)) (hf2 : P.underlying f2.type = some (.float .f32)) (h : DataW.trod enc P w base spare held fuel t cs = some x) :
    ∃ x y z : Nat, cs = [.float .f32 x, .float .f32 y, .float .f32 z] := by
  obtain ⟨xs, n, _, _, hl, _, hg⟩ := DataW.trod_struct hs h
  rw [hC] at hl
  match cs, hl with
  | [c0, c1, c2], _ =>
    obtain ⟨o0, k0⟩ := hone_of hone 0 f0 rfl
    obtain ⟨o1, k1⟩ := hone_of hone 1 f1 rfl
    obtain ⟨o2, k2⟩ := hone_of hone 2 f2 rfl
    have g0 := hg 0 f0 rfl
    have g1 := hg 1 f1 rfl
    have g2 := hg 2 f2 rfl
    rw [o0, k0] at g0
    rw [o1, k1] at g1
    rw [o2, k2] at g2
    have some_of : ∀ (m : Nat) (tt : TypeId) (l : List Value), P.underlying tt = some (.float .f32) → (∃ y, DataW.trod enc P w base spare held m tt l = some y) → ∃ b, l = [.float .f32 b] := by
      intro m tt l htt ⟨y, hy⟩
      obtain ⟨b, hb, _⟩ := trod_float htt hy
      exact ⟨b, hb⟩
    have lx : xs.length = 3 := by assumption
    match xs, lx with
    | [y0, y1, y2], _ =>
      obtain ⟨b0, e0⟩ := some_of n _ _ hf0 ⟨_, g0⟩
      obtain ⟨b1, e1⟩ := some_of n _ _ hf1 ⟨_, g1⟩
      obtain ⟨b2, e2⟩ := some_of n _ _ hf2 ⟨_, g2⟩
      simp at e0 e1 e2
      subst e0 e1 e2
      exact ⟨b0, b1, b2, rfl⟩
theorem open_ray {r : Reach} {b0 : Nat} {t : TypeId} {f0 f1 g0 g1 g2 k0 k1 k2 : Field} {v : Value} {d : DataW H} {p : List MemPlace} (hs : P.underlying t = some (.struct #[f0, f1])) (hC : P.cellsOf t = 6)
    (h0 : f0.offset = 0) (h1 : f1.offset = 3) (c0 : P.cellsOf f0.type = 3) (c1 : P.cellsOf f1.type = 3) (u0 : P.underlying f0.type = some (.struct #[g0, g1, g2])) (u1 : P.underlying f1.type = some (.struct #[k0, k1, k2]))
    (o0 : oneCellFields P #[g0, g1, g2] = true) (o1 : oneCellFields P #[k0, k1, k2] = true)
    (a0 : P.underlying g0.type = some (.float .f32)) (a1 : P.underlying g1.type = some (.float .f32)) (a2 : P.underlying g2.type = some (.float .f32)) (b0' : P.underlying k0.type = some (.float .f32)) (b1' : P.underlying k1.type = some (.float .f32)) (b2' : P.underlying k2.type = some (.float .f32))
    (hv : Value.okWide P w r b0 t v) (h : DataW.Trod enc P w base spare held t v d p) :
    ∃ fx fy fz wx wy wz : Nat, v = .agg #[.float .f32 fx, .float .f32 fy, .float .f32 fz, .float .f32 wx, .float .f32 wy, .float .f32 wz] := by
  obtain ⟨cs, rfl, hsz⟩ := okWide_struct hs hv
  obtain ⟨l⟩ := cs
  obtain ⟨fuel, hf⟩ := h
  obtain ⟨xs, n, _, _, hl, lx, hg⟩ := DataW.trod_struct hs hf
  match l, hsz.trans hC with
  | [v0, v1, v2, v3, v4, v5], _ =>
    have q0 := hg 0 f0 rfl
    have q1 := hg 1 f1 rfl
    rw [h0, c0] at q0
    rw [h1, c1] at q1
    match xs, (show xs.length = 2 from lx) with
    | [y0, y1], _ =>
      obtain ⟨x0, x1, x2, e⟩ := trod_vec u0 o0 c0 a0 a1 a2 (q0.trans rfl)
      obtain ⟨x3, x4, x5, e'⟩ := trod_vec u1 o1 c1 b0' b1' b2' (q1.trans rfl)
      simp [Value.cells] at e e'
      obtain ⟨rfl, rfl, rfl⟩ := e
      obtain ⟨rfl, rfl, rfl⟩ := e'
      exact ⟨_, _, _, _, _, _, rfl⟩
end
end Go.Proofs.Ytepanenjhfmoiaa
