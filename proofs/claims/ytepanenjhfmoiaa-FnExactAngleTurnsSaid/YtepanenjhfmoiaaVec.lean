/- The contracts of the small functions on vectors that this claim reaches. No conditions but that bits fit their kind. -/
import Derived.Test.YtepanenjhfmoiaaNum
import Derived.Deep.RegionHeld3
namespace Go.Proofs.Ytepanenjhfmoiaa
open Go.Fl Go.RowKit

theorem toVector_any (x y z : Nat) (w : World) : Calls Try.prog 14 #[.agg #[.float .f32 x, .float .f32 y, .float .f32 z]] w
    fun e w' => e = .returned (.agg #[.float .f32 x, .float .f32 y, .float .f32 z]) ∧ Below w.heap.size w w' := by
  go_enter Try.func14, Try.ntmps14
  go_wp2
  refine bodyPost_ret (v := .agg #[.float .f32 x, .float .f32 y, .float .f32 z]) (by simp [results, Try.results14, go_sem]) rfl ⟨rfl, ?_⟩
  exact bl_alloc (bl_alloc (bl_alloc (bl_refl _) _) _) _
theorem l01Inner_any (ax ay az bx b_y bz : Nat) (w : World) : Calls Try.prog 52 #[.agg #[.float .f32 ax, .float .f32 ay, .float .f32 az], .agg #[.float .f32 bx, .float .f32 b_y, .float .f32 bz]] w
    (FB w .f32 (innerF ax ay az bx b_y bz)) := by
  go_enter Try.func52, Try.ntmps52
  go_wp2_with ((with_reducible refine wpList_fop ?_); refine ⟨_, _, _, ⟨rfl, rfl, rfl, rfl⟩, ?_⟩; intro r n hr)
  rename_i r1 n1 h1 r2 n2 h2 r3 n3 h3 r4 n4 h4
  go_ret
  exact ⟨_, hr.op' (h3.op' h1 h2) h4, rfl, bl_drewN (bl_alloc (bl_alloc (bl_refl _) _) _) _⟩
theorem InnerOf_any (ax ay az bx b_y bz : Nat) (w : World) : Calls Try.prog 32 #[.agg #[.float .f32 ax, .float .f32 ay, .float .f32 az], .agg #[.float .f32 bx, .float .f32 b_y, .float .f32 bz]] w
    (FB w .f32 (innerF ax ay az bx b_y bz)) := by
  go_enter Try.func32, Try.ntmps32
  go_wp2_with ((with_reducible refine wpList_fop ?_); refine ⟨_, _, _, ⟨rfl, rfl, rfl, rfl⟩, ?_⟩; intro r n hr)
  rename_i r1 n1 h1 r2 n2 h2 r3 n3 h3 r4 n4 h4
  go_ret
  exact ⟨_, hr.op' (h3.op' h1 h2) h4, rfl, bl_drewN (bl_alloc (bl_alloc (bl_refl _) _) _) _⟩
theorem ne2 (a : Nat) : (a = a + 1 + 1) = False := by simp; omega
theorem en2 (a : Nat) : (a + 1 + 1 = a) = False := by simp; omega
theorem ne3 (a : Nat) : (a = a + 1 + 1 + 1) = False := by simp; omega
theorem en3 (a : Nat) : (a + 1 + 1 + 1 = a) = False := by simp; omega
theorem ne4 (a : Nat) : (a = a + 1 + 1 + 1 + 1) = False := by simp; omega
theorem en4 (a : Nat) : (a + 1 + 1 + 1 + 1 = a) = False := by simp; omega
theorem bcell {W w1 : World} (hb : Below W.heap.size W w1) : (∀ b o, b < W.heap.size → w1.cell? ⟨b, o, none⟩ = W.cell? ⟨b, o, none⟩) ∧ (∀ b o, b < W.heap.size → w1.frozen? ⟨b, o, none⟩ = W.frozen? ⟨b, o, none⟩) :=
  ⟨fun b o h => hb.cell (p := ⟨b, o, none⟩) h, fun b o h => hb.frozen (p := ⟨b, o, none⟩) h⟩

theorem l01Add_any (ax ay az bx b_y bz : Nat) (w : World) : Calls Try.prog 66 #[.agg #[.float .f32 ax, .float .f32 ay, .float .f32 az], .agg #[.float .f32 bx, .float .f32 b_y, .float .f32 bz]] w
    (VB w (fop .add .f32 ax bx) (fop .add .f32 ay b_y) (fop .add .f32 az bz)) := by
  go_enter Try.func66, Try.ntmps66
  go_wp2_with ((with_reducible refine wpList_fop ?_); refine ⟨_, _, _, ⟨rfl, rfl, rfl, rfl⟩, ?_⟩; intro r n hr)
  rename_i r1 n1 h1 r2 n2 h2
  exact bodyPost_ret (v := .agg #[.float .f32 r1, .float .f32 r2, .float .f32 r]) (by simp [results, Try.results66, go_sem]) rfl ⟨_, _, _, h1, h2, hr, rfl, (by repeat (first | with_reducible exact bl_refl _ | with_reducible assumption | with_reducible refine bl_set ?_ (by simp <;> omega) _ | with_reducible refine bl_drewN ?_ _ | with_reducible refine bl_drew ?_ | with_reducible refine bl_alloc ?_ _ | with_reducible refine bl_call ?_ (by assumption)))⟩
theorem AddVectors_any (ax ay az bx b_y bz : Nat) (w : World) : Calls Try.prog 67 #[.agg #[.float .f32 ax, .float .f32 ay, .float .f32 az], .agg #[.float .f32 bx, .float .f32 b_y, .float .f32 bz]] w
    (VB w (fop .add .f32 ax bx) (fop .add .f32 ay b_y) (fop .add .f32 az bz)) := by
  go_enter Try.func67, Try.ntmps67
  go_wp2_with ((with_reducible refine wpList_fop ?_); refine ⟨_, _, _, ⟨rfl, rfl, rfl, rfl⟩, ?_⟩; intro r n hr)
  rename_i r1 n1 h1 r2 n2 h2
  exact bodyPost_ret (v := .agg #[.float .f32 r1, .float .f32 r2, .float .f32 r]) (by simp [results, Try.results67, go_sem]) rfl ⟨_, _, _, h1, h2, hr, rfl, (by repeat (first | with_reducible exact bl_refl _ | with_reducible assumption | with_reducible refine bl_set ?_ (by simp <;> omega) _ | with_reducible refine bl_drewN ?_ _ | with_reducible refine bl_drew ?_ | with_reducible refine bl_alloc ?_ _ | with_reducible refine bl_call ?_ (by assumption)))⟩
theorem l01Scale_any (ax ay az s : Nat) (w : World) : Calls Try.prog 61 #[.agg #[.float .f32 ax, .float .f32 ay, .float .f32 az], .float .f32 s] w
    (VB w (fop .mul .f32 ax s) (fop .mul .f32 ay s) (fop .mul .f32 az s)) := by
  go_enter Try.func61, Try.ntmps61
  go_wp2_with ((with_reducible refine wpList_fop ?_); refine ⟨_, _, _, ⟨rfl, rfl, rfl, rfl⟩, ?_⟩; intro r n hr)
  rename_i r1 n1 h1 r2 n2 h2
  exact bodyPost_ret (v := .agg #[.float .f32 r1, .float .f32 r2, .float .f32 r]) (by simp [results, Try.results61, go_sem]) rfl ⟨_, _, _, h1, h2, hr, rfl, (by repeat (first | with_reducible exact bl_refl _ | with_reducible assumption | with_reducible refine bl_set ?_ (by simp <;> omega) _ | with_reducible refine bl_drewN ?_ _ | with_reducible refine bl_drew ?_ | with_reducible refine bl_alloc ?_ _ | with_reducible refine bl_call ?_ (by assumption)))⟩
theorem ScaleVector_any (ax ay az s : Nat) (w : World) : Calls Try.prog 43 #[.agg #[.float .f32 ax, .float .f32 ay, .float .f32 az], .float .f32 s] w
    (VB w (fop .mul .f32 ax s) (fop .mul .f32 ay s) (fop .mul .f32 az s)) := by
  go_enter Try.func43, Try.ntmps43
  go_wp2_with ((with_reducible refine wpList_fop ?_); refine ⟨_, _, _, ⟨rfl, rfl, rfl, rfl⟩, ?_⟩; intro r n hr)
  rename_i r1 n1 h1 r2 n2 h2
  exact bodyPost_ret (v := .agg #[.float .f32 r1, .float .f32 r2, .float .f32 r]) (by simp [results, Try.results43, go_sem]) rfl ⟨_, _, _, h1, h2, hr, rfl, (by repeat (first | with_reducible exact bl_refl _ | with_reducible assumption | with_reducible refine bl_set ?_ (by simp <;> omega) _ | with_reducible refine bl_drewN ?_ _ | with_reducible refine bl_drew ?_ | with_reducible refine bl_alloc ?_ _ | with_reducible refine bl_call ?_ (by assumption)))⟩
end Go.Proofs.Ytepanenjhfmoiaa
