/- The contracts of the small functions on vectors that this claim reaches. No conditions but that bits fit their kind. -/
import Derived.Test.YtddfgopgcglldaaNum
import Derived.Deep.RegionHeld3
namespace Go.Proofs.Ytddfgopgcglldaa
open Go.Fl Go.RowKit

theorem toVector_any (x y z : Nat) (w : World) : Calls Try.prog 26 #[.agg #[.float .f32 x, .float .f32 y, .float .f32 z]] w
    fun e w' => e = .returned (.agg #[.float .f32 x, .float .f32 y, .float .f32 z]) ∧ Below w.heap.size w w' := by
  go_enter Try.func26, Try.ntmps26
  go_wp2
  refine bodyPost_ret (v := .agg #[.float .f32 x, .float .f32 y, .float .f32 z]) (by simp [results, Try.results26, go_sem]) rfl ⟨rfl, ?_⟩
  exact bl_alloc (bl_alloc (bl_alloc (bl_refl _) _) _) _
theorem ne2 (a : Nat) : (a = a + 1 + 1) = False := by simp; omega
theorem en2 (a : Nat) : (a + 1 + 1 = a) = False := by simp; omega
theorem ne3 (a : Nat) : (a = a + 1 + 1 + 1) = False := by simp; omega
theorem en3 (a : Nat) : (a + 1 + 1 + 1 = a) = False := by simp; omega
theorem ne4 (a : Nat) : (a = a + 1 + 1 + 1 + 1) = False := by simp; omega
theorem en4 (a : Nat) : (a + 1 + 1 + 1 + 1 = a) = False := by simp; omega
theorem bcell {W w1 : World} (hb : Below W.heap.size W w1) : (∀ b o, b < W.heap.size → w1.cell? ⟨b, o, none⟩ = W.cell? ⟨b, o, none⟩) ∧ (∀ b o, b < W.heap.size → w1.frozen? ⟨b, o, none⟩ = W.frozen? ⟨b, o, none⟩) :=
  ⟨fun b o h => hb.cell (p := ⟨b, o, none⟩) h, fun b o h => hb.frozen (p := ⟨b, o, none⟩) h⟩

theorem l01Add_any (ax ay az bx b_y bz : Nat) (w : World) : Calls Try.prog 82 #[.agg #[.float .f32 ax, .float .f32 ay, .float .f32 az], .agg #[.float .f32 bx, .float .f32 b_y, .float .f32 bz]] w
    (VB w (fop .add .f32 ax bx) (fop .add .f32 ay b_y) (fop .add .f32 az bz)) := by
  go_enter Try.func82, Try.ntmps82
  go_wp2_with ((with_reducible refine wpList_fop ?_); refine ⟨_, _, _, ⟨rfl, rfl, rfl, rfl⟩, ?_⟩; intro r n hr)
  rename_i r1 n1 h1 r2 n2 h2
  exact bodyPost_ret (v := .agg #[.float .f32 r1, .float .f32 r2, .float .f32 r]) (by simp [results, Try.results82, go_sem]) rfl ⟨_, _, _, h1, h2, hr, rfl, (by repeat (first | with_reducible exact bl_refl _ | with_reducible assumption | with_reducible refine bl_set ?_ (by simp <;> omega) _ | with_reducible refine bl_drewN ?_ _ | with_reducible refine bl_drew ?_ | with_reducible refine bl_alloc ?_ _ | with_reducible refine bl_call ?_ (by assumption)))⟩
theorem AddVectors_any (ax ay az bx b_y bz : Nat) (w : World) : Calls Try.prog 60 #[.agg #[.float .f32 ax, .float .f32 ay, .float .f32 az], .agg #[.float .f32 bx, .float .f32 b_y, .float .f32 bz]] w
    (VB w (fop .add .f32 ax bx) (fop .add .f32 ay b_y) (fop .add .f32 az bz)) := by
  go_enter Try.func60, Try.ntmps60
  go_wp2_with ((with_reducible refine wpList_fop ?_); refine ⟨_, _, _, ⟨rfl, rfl, rfl, rfl⟩, ?_⟩; intro r n hr)
  rename_i r1 n1 h1 r2 n2 h2
  exact bodyPost_ret (v := .agg #[.float .f32 r1, .float .f32 r2, .float .f32 r]) (by simp [results, Try.results60, go_sem]) rfl ⟨_, _, _, h1, h2, hr, rfl, (by repeat (first | with_reducible exact bl_refl _ | with_reducible assumption | with_reducible refine bl_set ?_ (by simp <;> omega) _ | with_reducible refine bl_drewN ?_ _ | with_reducible refine bl_drew ?_ | with_reducible refine bl_alloc ?_ _ | with_reducible refine bl_call ?_ (by assumption)))⟩
theorem l01Less_any (ax ay az bx b_y bz : Nat) (w : World) : Calls Try.prog 84 #[.agg #[.float .f32 ax, .float .f32 ay, .float .f32 az], .agg #[.float .f32 bx, .float .f32 b_y, .float .f32 bz]] w
    (VB w (fop .sub .f32 ax bx) (fop .sub .f32 ay b_y) (fop .sub .f32 az bz)) := by
  go_enter Try.func84, Try.ntmps84
  go_wp2_with ((with_reducible refine wpList_fop ?_); refine ⟨_, _, _, ⟨rfl, rfl, rfl, rfl⟩, ?_⟩; intro r n hr)
  rename_i r1 n1 h1 r2 n2 h2
  exact bodyPost_ret (v := .agg #[.float .f32 r1, .float .f32 r2, .float .f32 r]) (by simp [results, Try.results84, go_sem]) rfl ⟨_, _, _, h1, h2, hr, rfl, (by repeat (first | with_reducible exact bl_refl _ | with_reducible assumption | with_reducible refine bl_set ?_ (by simp <;> omega) _ | with_reducible refine bl_drewN ?_ _ | with_reducible refine bl_drew ?_ | with_reducible refine bl_alloc ?_ _ | with_reducible refine bl_call ?_ (by assumption)))⟩
theorem LessVectors_any (ax ay az bx b_y bz : Nat) (w : World) : Calls Try.prog 62 #[.agg #[.float .f32 ax, .float .f32 ay, .float .f32 az], .agg #[.float .f32 bx, .float .f32 b_y, .float .f32 bz]] w
    (VB w (fop .sub .f32 ax bx) (fop .sub .f32 ay b_y) (fop .sub .f32 az bz)) := by
  go_enter Try.func62, Try.ntmps62
  go_wp2_with ((with_reducible refine wpList_fop ?_); refine ⟨_, _, _, ⟨rfl, rfl, rfl, rfl⟩, ?_⟩; intro r n hr)
  rename_i r1 n1 h1 r2 n2 h2
  exact bodyPost_ret (v := .agg #[.float .f32 r1, .float .f32 r2, .float .f32 r]) (by simp [results, Try.results62, go_sem]) rfl ⟨_, _, _, h1, h2, hr, rfl, (by repeat (first | with_reducible exact bl_refl _ | with_reducible assumption | with_reducible refine bl_set ?_ (by simp <;> omega) _ | with_reducible refine bl_drewN ?_ _ | with_reducible refine bl_drew ?_ | with_reducible refine bl_alloc ?_ _ | with_reducible refine bl_call ?_ (by assumption)))⟩
theorem l01Scale_any (ax ay az s : Nat) (w : World) : Calls Try.prog 83 #[.agg #[.float .f32 ax, .float .f32 ay, .float .f32 az], .float .f32 s] w
    (VB w (fop .mul .f32 ax s) (fop .mul .f32 ay s) (fop .mul .f32 az s)) := by
  go_enter Try.func83, Try.ntmps83
  go_wp2_with ((with_reducible refine wpList_fop ?_); refine ⟨_, _, _, ⟨rfl, rfl, rfl, rfl⟩, ?_⟩; intro r n hr)
  rename_i r1 n1 h1 r2 n2 h2
  exact bodyPost_ret (v := .agg #[.float .f32 r1, .float .f32 r2, .float .f32 r]) (by simp [results, Try.results83, go_sem]) rfl ⟨_, _, _, h1, h2, hr, rfl, (by repeat (first | with_reducible exact bl_refl _ | with_reducible assumption | with_reducible refine bl_set ?_ (by simp <;> omega) _ | with_reducible refine bl_drewN ?_ _ | with_reducible refine bl_drew ?_ | with_reducible refine bl_alloc ?_ _ | with_reducible refine bl_call ?_ (by assumption)))⟩
theorem ScaleVector_any (ax ay az s : Nat) (w : World) : Calls Try.prog 61 #[.agg #[.float .f32 ax, .float .f32 ay, .float .f32 az], .float .f32 s] w
    (VB w (fop .mul .f32 ax s) (fop .mul .f32 ay s) (fop .mul .f32 az s)) := by
  go_enter Try.func61, Try.ntmps61
  go_wp2_with ((with_reducible refine wpList_fop ?_); refine ⟨_, _, _, ⟨rfl, rfl, rfl, rfl⟩, ?_⟩; intro r n hr)
  rename_i r1 n1 h1 r2 n2 h2
  exact bodyPost_ret (v := .agg #[.float .f32 r1, .float .f32 r2, .float .f32 r]) (by simp [results, Try.results61, go_sem]) rfl ⟨_, _, _, h1, h2, hr, rfl, (by repeat (first | with_reducible exact bl_refl _ | with_reducible assumption | with_reducible refine bl_set ?_ (by simp <;> omega) _ | with_reducible refine bl_drewN ?_ _ | with_reducible refine bl_drew ?_ | with_reducible refine bl_alloc ?_ _ | with_reducible refine bl_call ?_ (by assumption)))⟩
end Go.Proofs.Ytddfgopgcglldaa
