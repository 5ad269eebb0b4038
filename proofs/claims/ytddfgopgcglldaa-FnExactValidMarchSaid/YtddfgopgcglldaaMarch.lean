/- The test of a march. No conditions. -/
import Derived.Test.YtddfgopgcglldaaNum
namespace Go.Proofs.Ytddfgopgcglldaa
open Go.Fl Go.RowKit

def posB (x : Nat) : Bool := isFin x && (FloatKind.f32.format.order x 0 == some .gt)
def geB (x : Nat) : Bool := FloatKind.f32.format.order x 0 == some .gt || FloatKind.f32.format.order x 0 == some .eq
theorem stepOk_any (x : Nat) (w : World) : Calls Try.prog 50 #[.float .f32 x] w (BOut w (posB x)) := by
  cases h : isFin x
  · have H := Lib.hid (show posB x = false by rw [posB, h]; rfl)
    go_enter Try.func50, Try.ntmps50
    go_wp2_with (go_at_call 51; refine (IsFinite_any _ _).mono ?_; rintro e w' ⟨rfl, n, rfl⟩)
    go_ret
    exact ⟨ret_bool H.out.symm, _, rfl⟩
  · have H := Lib.hid (show posB x = (FloatKind.f32.format.order x 0 == some .gt) by rw [posB, h]; rfl)
    go_enter Try.func50, Try.ntmps50
    go_wp2_with (go_at_call 51; refine (IsFinite_any _ _).mono ?_; rintro e w' ⟨rfl, n, rfl⟩)
    go_ret
    exact ⟨ret_bool H.out.symm, _, rfl⟩
theorem l03Positive_any (x : Nat) (w : World) : Calls Try.prog 76 #[.float .f32 x] w (BOut w (posB x)) := by
  cases h : isFin x
  · have H := Lib.hid (show posB x = false by rw [posB, h]; rfl)
    go_enter Try.func76, Try.ntmps76
    go_wp2_with (go_at_call 77; refine (l01Finite_any _ _).mono ?_; rintro e w' ⟨rfl, n, rfl⟩)
    go_ret
    exact ⟨ret_bool H.out.symm, _, rfl⟩
  · have H := Lib.hid (show posB x = (FloatKind.f32.format.order x 0 == some .gt) by rw [posB, h]; rfl)
    go_enter Try.func76, Try.ntmps76
    go_wp2_with (go_at_call 77; refine (l01Finite_any _ _).mono ?_; rintro e w' ⟨rfl, n, rfl⟩)
    go_ret
    exact ⟨ret_bool H.out.symm, _, rfl⟩
def marchB (a b : Nat) (s : Int) : Bool := posB a && isFin b && geB b && (decide (1 ≤ s) && decide (s ≤ 64))
theorem bcellM {W w1 : World} (hb : Below W.heap.size W w1) : (∀ b o, b < W.heap.size → w1.cell? ⟨b, o, none⟩ = W.cell? ⟨b, o, none⟩) ∧ (∀ b o, b < W.heap.size → w1.frozen? ⟨b, o, none⟩ = W.frozen? ⟨b, o, none⟩) :=
  ⟨fun b o h => hb.cell (p := ⟨b, o, none⟩) h, fun b o h => hb.frozen (p := ⟨b, o, none⟩) h⟩
theorem in_any (n lo hi : Int) (w : World) : Calls Try.prog 52 #[.int .i64 n, .int .i64 lo, .int .i64 hi] w (BOut w (decide (lo ≤ n) && decide (n ≤ hi))) := by
  cases h : decide (lo ≤ n)
  · go_enter Try.func52, Try.ntmps52
    go_wp2
    go_ret
    exact bout (n := 0) (by simp [*]) rfl
  · go_enter Try.func52, Try.ntmps52
    go_wp2
    go_ret
    exact bout (n := 0) (by simp [*]) rfl
theorem l00In_any (n lo hi : Int) (w : World) : Calls Try.prog 78 #[.int .i64 n, .int .i64 lo, .int .i64 hi] w (BOut w (decide (lo ≤ n) && decide (n ≤ hi))) := by
  cases h : decide (lo ≤ n)
  · go_enter Try.func78, Try.ntmps78
    go_wp2
    go_ret
    exact bout (n := 0) (by simp [*]) rfl
  · go_enter Try.func78, Try.ntmps78
    go_wp2
    go_ret
    exact bout (n := 0) (by simp [*]) rfl
theorem ValidMarch_any (a b : Nat) (s : Int) (w : World) : Calls Try.prog 17 #[.agg #[.float .f32 a, .float .f32 b, .int .i64 s]] w (BB w (marchB a b s)) := by
  cases h1 : posB a
  · go_enter Try.func17, Try.ntmps17
    go_wp2_with (first | (go_at_call 50; refine (stepOk_any _ _).mono ?_; rintro e w' ⟨rfl, n, rfl⟩) | (go_at_call 51; refine (IsFinite_any _ _).mono ?_; rintro e w' ⟨rfl, n, rfl⟩) | (go_at_call 52; refine (in_any _ _ _ _).mono ?_; rintro e w' ⟨rfl, n, rfl⟩))
    all_goals (go_ret; exact ⟨ret_bool (by simp [marchB, geB, *]), (by repeat (first | with_reducible exact bl_refl _ | with_reducible assumption | with_reducible refine bl_set ?_ (by simp <;> omega) _ | with_reducible refine bl_drewN ?_ _ | with_reducible refine bl_drew ?_ | with_reducible refine bl_alloc ?_ _ | with_reducible refine bl_call ?_ (by assumption)))⟩)
  · cases h2 : isFin b
    · go_enter Try.func17, Try.ntmps17
      go_wp2_with (first | (go_at_call 50; refine (stepOk_any _ _).mono ?_; rintro e w' ⟨rfl, n, rfl⟩) | (go_at_call 51; refine (IsFinite_any _ _).mono ?_; rintro e w' ⟨rfl, n, rfl⟩) | (go_at_call 52; refine (in_any _ _ _ _).mono ?_; rintro e w' ⟨rfl, n, rfl⟩))
      all_goals (go_ret; exact ⟨ret_bool (by simp [marchB, geB, *]), (by repeat (first | with_reducible exact bl_refl _ | with_reducible assumption | with_reducible refine bl_set ?_ (by simp <;> omega) _ | with_reducible refine bl_drewN ?_ _ | with_reducible refine bl_drew ?_ | with_reducible refine bl_alloc ?_ _ | with_reducible refine bl_call ?_ (by assumption)))⟩)
    · go_enter Try.func17, Try.ntmps17
      go_wp2_with (first | (go_at_call 50; refine (stepOk_any _ _).mono ?_; rintro e w' ⟨rfl, n, rfl⟩) | (go_at_call 51; refine (IsFinite_any _ _).mono ?_; rintro e w' ⟨rfl, n, rfl⟩) | (go_at_call 52; refine (in_any _ _ _ _).mono ?_; rintro e w' ⟨rfl, n, rfl⟩))
      all_goals (go_ret; exact ⟨ret_bool (by simp [marchB, geB, *]), (by repeat (first | with_reducible exact bl_refl _ | with_reducible assumption | with_reducible refine bl_set ?_ (by simp <;> omega) _ | with_reducible refine bl_drewN ?_ _ | with_reducible refine bl_drew ?_ | with_reducible refine bl_alloc ?_ _ | with_reducible refine bl_call ?_ (by assumption)))⟩)
theorem l03March_any (a b : Nat) (s : Int) (g : Nat) (w : World) (c0 : w.cell? ⟨g, 0, none⟩ = some (.float .f32 a)) (c1 : w.cell? ⟨g, 1, none⟩ = some (.float .f32 b)) (c2 : w.cell? ⟨g, 2, none⟩ = some (.int .i64 s)) : Calls Try.prog 49 #[.pointer (some ⟨g, 0, none⟩)] w (BB w (marchB a b s)) := by
  cases h1 : posB a
  · go_enter Try.func49, Try.ntmps49
    go_wp2_with (first | (go_at_call 76; refine (l03Positive_any _ _).mono ?_; rintro e w' ⟨rfl, n, rfl⟩) | (go_at_call 77; refine (l01Finite_any _ _).mono ?_; rintro e w' ⟨rfl, n, rfl⟩) | (go_at_call 78; refine (l00In_any _ _ _ _).mono ?_; rintro e w' ⟨rfl, n, rfl⟩))
    all_goals (go_ret; exact ⟨ret_bool (by simp [marchB, geB, *]), (by repeat (first | with_reducible exact bl_refl _ | with_reducible assumption | with_reducible refine bl_set ?_ (by simp <;> omega) _ | with_reducible refine bl_drewN ?_ _ | with_reducible refine bl_drew ?_ | with_reducible refine bl_alloc ?_ _ | with_reducible refine bl_call ?_ (by assumption)))⟩)
  · cases h2 : isFin b
    · go_enter Try.func49, Try.ntmps49
      go_wp2_with (first | (go_at_call 76; refine (l03Positive_any _ _).mono ?_; rintro e w' ⟨rfl, n, rfl⟩) | (go_at_call 77; refine (l01Finite_any _ _).mono ?_; rintro e w' ⟨rfl, n, rfl⟩) | (go_at_call 78; refine (l00In_any _ _ _ _).mono ?_; rintro e w' ⟨rfl, n, rfl⟩))
      all_goals (go_ret; exact ⟨ret_bool (by simp [marchB, geB, *]), (by repeat (first | with_reducible exact bl_refl _ | with_reducible assumption | with_reducible refine bl_set ?_ (by simp <;> omega) _ | with_reducible refine bl_drewN ?_ _ | with_reducible refine bl_drew ?_ | with_reducible refine bl_alloc ?_ _ | with_reducible refine bl_call ?_ (by assumption)))⟩)
    · go_enter Try.func49, Try.ntmps49
      go_wp2_with (first | (go_at_call 76; refine (l03Positive_any _ _).mono ?_; rintro e w' ⟨rfl, n, rfl⟩) | (go_at_call 77; refine (l01Finite_any _ _).mono ?_; rintro e w' ⟨rfl, n, rfl⟩) | (go_at_call 78; refine (l00In_any _ _ _ _).mono ?_; rintro e w' ⟨rfl, n, rfl⟩))
      all_goals (go_ret; exact ⟨ret_bool (by simp [marchB, geB, *]), (by repeat (first | with_reducible exact bl_refl _ | with_reducible assumption | with_reducible refine bl_set ?_ (by simp <;> omega) _ | with_reducible refine bl_drewN ?_ _ | with_reducible refine bl_drew ?_ | with_reducible refine bl_alloc ?_ _ | with_reducible refine bl_call ?_ (by assumption)))⟩)
theorem spec_ValidMarch_any (a b : Nat) (s : Int) (w : World) : Calls Try.prog 15 #[.agg #[.float .f32 a, .float .f32 b, .int .i64 s]] w (BB w (marchB a b s)) := by
  go_enter Try.func15, Try.ntmps15
  go_wp2_with (go_at_call 49; refine (l03March_any a b s _ _ (by simp [go_sem]) (by simp [go_sem]) (by simp [go_sem])).mono ?_; rintro e w' ⟨rfl, hb⟩)
  go_ret
  exact ⟨rfl, (by repeat (first | with_reducible exact bl_refl _ | with_reducible assumption | with_reducible refine bl_set ?_ (by simp <;> omega) _ | with_reducible refine bl_drewN ?_ _ | with_reducible refine bl_drew ?_ | with_reducible refine bl_alloc ?_ _ | with_reducible refine bl_call ?_ (by assumption)))⟩
theorem toMarch_any (x y : Nat) (z : Int) (w : World) : Calls Try.prog 16 #[.agg #[.float .f32 x, .float .f32 y, .int .i64 z]] w
    fun e w' => e = .returned (.agg #[.float .f32 x, .float .f32 y, .int .i64 z]) ∧ Below w.heap.size w w' := by
  go_enter Try.func16, Try.ntmps16
  go_wp2
  refine bodyPost_ret (v := .agg #[.float .f32 x, .float .f32 y, .int .i64 z]) (by simp [results, Try.results16, go_sem]) rfl ⟨rfl, ?_⟩
  exact bl_alloc (bl_alloc (bl_alloc (bl_refl _) _) _) _
section
open Go.WideShapes Go.ChangeShapes Go.Deep
variable {H : Type} {enc : TypeId × Value → H} {P : Program} {w : World} {base : Nat} {spare : Nat → Bool} {held : Bool}
theorem trod_int1 {fuel : Nat} {t : TypeId} {k : IntKind} {cs : List Value} {x : DataW H × List MemPlace} (ht : P.underlying t = some (.int k)) (h : DataW.trod enc P w base spare held fuel t cs = some x) : ∃ b, cs = [.int k b] := by
  cases fuel with
  | zero => simp [DataW.trod] at h
  | succ n =>
    unfold DataW.trod at h
    rw [ht] at h
    split at h <;> simp_all
theorem open_march {r : Reach} {b0 : Nat} {t : TypeId} {f0 f1 f2 : Field} {v : Value} {d : DataW H} {p : List MemPlace} (hs : P.underlying t = some (.struct #[f0, f1, f2])) (hone : oneCellFields P #[f0, f1, f2] = true) (hC : P.cellsOf t = 3)
    (hf0 : P.underlying f0.type = some (.float .f32)) (hf1 : P.underlying f1.type = some (.float .f32)) (hf2 : P.underlying f2.type = some (.int .i64))
    (hv : Value.okWide P w r b0 t v) (h : DataW.Trod enc P w base spare held t v d p) :
    ∃ (x y : Nat) (z : Int), v = .agg #[.float .f32 x, .float .f32 y, .int .i64 z] ∧ x < 4294967296 ∧ y < 4294967296 := by
  obtain ⟨v0, v1, v2, y0, y1, y2, n, rfl, rfl, rfl, h0, h1, h2⟩ := Joins.open_agg3 hs hone hC hv h
  obtain ⟨x, e0, _, w0⟩ := trod_float hf0 h0
  obtain ⟨y, e1, _, w1⟩ := trod_float hf1 h1
  obtain ⟨z, e2⟩ := trod_int1 hf2 h2
  simp only [List.cons.injEq, and_true] at e0 e1 e2
  subst e0; subst e1; subst e2
  exact ⟨x, y, z, rfl, (lt32 x).1 w0, (lt32 y).1 w1⟩
end
end Go.Proofs.Ytddfgopgcglldaa
