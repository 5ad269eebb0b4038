/- The contracts of the small functions on vectors that this claim reaches. No conditions but that bits fit their kind. -/
import Derived.Test.YtnjbmcjneigcpaaNum
import Derived.Deep.RegionHeld3
namespace Go.Proofs.Ytnjbmcjneigcpaa
open Go.Fl Go.RowKit

theorem toVector_any (x y z : Nat) (w : World) : Calls Try.prog 27 #[.agg #[.float .f32 x, .float .f32 y, .float .f32 z]] w
    fun e w' => e = .returned (.agg #[.float .f32 x, .float .f32 y, .float .f32 z]) ∧ Below w.heap.size w w' := by
  go_enter Try.func27, Try.ntmps27
  go_wp2
  refine bodyPost_ret (v := .agg #[.float .f32 x, .float .f32 y, .float .f32 z]) (by simp [results, Try.results27, go_sem]) rfl ⟨rfl, ?_⟩
  exact bl_alloc (bl_alloc (bl_alloc (bl_refl _) _) _) _
theorem l01Inner_any (ax ay az bx b_y bz : Nat) (w : World) : Calls Try.prog 47 #[.agg #[.float .f32 ax, .float .f32 ay, .float .f32 az], .agg #[.float .f32 bx, .float .f32 b_y, .float .f32 bz]] w
    (FB w .f32 (innerF ax ay az bx b_y bz)) := by
  go_enter Try.func47, Try.ntmps47
  go_wp2_with ((with_reducible refine wpList_fop ?_); refine ⟨_, _, _, ⟨rfl, rfl, rfl, rfl⟩, ?_⟩; intro r n hr)
  rename_i r1 n1 h1 r2 n2 h2 r3 n3 h3 r4 n4 h4
  go_ret
  exact ⟨_, hr.op' (h3.op' h1 h2) h4, rfl, bl_drewN (bl_alloc (bl_alloc (bl_refl _) _) _) _⟩
theorem InnerOf_any (ax ay az bx b_y bz : Nat) (w : World) : Calls Try.prog 28 #[.agg #[.float .f32 ax, .float .f32 ay, .float .f32 az], .agg #[.float .f32 bx, .float .f32 b_y, .float .f32 bz]] w
    (FB w .f32 (innerF ax ay az bx b_y bz)) := by
  go_enter Try.func28, Try.ntmps28
  go_wp2_with ((with_reducible refine wpList_fop ?_); refine ⟨_, _, _, ⟨rfl, rfl, rfl, rfl⟩, ?_⟩; intro r n hr)
  rename_i r1 n1 h1 r2 n2 h2 r3 n3 h3 r4 n4 h4
  go_ret
  exact ⟨_, hr.op' (h3.op' h1 h2) h4, rfl, bl_drewN (bl_alloc (bl_alloc (bl_refl _) _) _) _⟩
theorem ne2 (a : Nat) : (a = a + 1 + 1) = False := by simp; omega
theorem en2 (a : Nat) : (a + 1 + 1 = a) = False := by simp; omega
theorem ne3 (a : Nat) : (a = a + 1 + 1 + 1) = False := by simp; omega
theorem en3 (a : Nat) : (a + 1 + 1 + 1 = a) = False := by simp; omega
theorem ne4 (a : Nat) : (a = a + 1 + 1 + 1 + 1) = False := by simp; omega
theorem en4 (a : Nat) : (a + 1 + 1 + 1 + 1 = a) = False := by simp; omega
theorem bcell {W w1 : World} (hb : Below W.heap.size W w1) : (∀ b o, b < W.heap.size → w1.cell? ⟨b, o, none⟩ = W.cell? ⟨b, o, none⟩) ∧ (∀ b o, b < W.heap.size → w1.frozen? ⟨b, o, none⟩ = W.frozen? ⟨b, o, none⟩) :=
  ⟨fun b o h => hb.cell (p := ⟨b, o, none⟩) h, fun b o h => hb.frozen (p := ⟨b, o, none⟩) h⟩

theorem l01Add_any (ax ay az bx b_y bz : Nat) (w : World) : Calls Try.prog 52 #[.agg #[.float .f32 ax, .float .f32 ay, .float .f32 az], .agg #[.float .f32 bx, .float .f32 b_y, .float .f32 bz]] w
    (VB w (fop .add .f32 ax bx) (fop .add .f32 ay b_y) (fop .add .f32 az bz)) := by
  go_enter Try.func52, Try.ntmps52
  go_wp2_with ((with_reducible refine wpList_fop ?_); refine ⟨_, _, _, ⟨rfl, rfl, rfl, rfl⟩, ?_⟩; intro r n hr)
  rename_i r1 n1 h1 r2 n2 h2
  exact bodyPost_ret (v := .agg #[.float .f32 r1, .float .f32 r2, .float .f32 r]) (by simp [results, Try.results52, go_sem]) rfl ⟨_, _, _, h1, h2, hr, rfl, (by repeat (first | with_reducible exact bl_refl _ | with_reducible assumption | with_reducible refine bl_set ?_ (by simp <;> omega) _ | with_reducible refine bl_drewN ?_ _ | with_reducible refine bl_drew ?_ | with_reducible refine bl_alloc ?_ _ | with_reducible refine bl_call ?_ (by assumption)))⟩
theorem AddVectors_any (ax ay az bx b_y bz : Nat) (w : World) : Calls Try.prog 32 #[.agg #[.float .f32 ax, .float .f32 ay, .float .f32 az], .agg #[.float .f32 bx, .float .f32 b_y, .float .f32 bz]] w
    (VB w (fop .add .f32 ax bx) (fop .add .f32 ay b_y) (fop .add .f32 az bz)) := by
  go_enter Try.func32, Try.ntmps32
  go_wp2_with ((with_reducible refine wpList_fop ?_); refine ⟨_, _, _, ⟨rfl, rfl, rfl, rfl⟩, ?_⟩; intro r n hr)
  rename_i r1 n1 h1 r2 n2 h2
  exact bodyPost_ret (v := .agg #[.float .f32 r1, .float .f32 r2, .float .f32 r]) (by simp [results, Try.results32, go_sem]) rfl ⟨_, _, _, h1, h2, hr, rfl, (by repeat (first | with_reducible exact bl_refl _ | with_reducible assumption | with_reducible refine bl_set ?_ (by simp <;> omega) _ | with_reducible refine bl_drewN ?_ _ | with_reducible refine bl_drew ?_ | with_reducible refine bl_alloc ?_ _ | with_reducible refine bl_call ?_ (by assumption)))⟩
theorem spec_AddVectors_any (ax ay az bx b_y bz : Nat) (w : World) : Calls Try.prog 31 #[.agg #[.float .f32 ax, .float .f32 ay, .float .f32 az], .agg #[.float .f32 bx, .float .f32 b_y, .float .f32 bz]] w
    (VB w (fop .add .f32 ax bx) (fop .add .f32 ay b_y) (fop .add .f32 az bz)) := by
  go_enter Try.func31, Try.ntmps31
  go_wp2_with fail
  refine (l01Add_any ax ay az bx b_y bz _).mono ?_
  rintro e w1 ⟨r, s', t, hr, hs, ht, rfl, hb⟩
  obtain ⟨hc, hf⟩ := bcell hb
  go_wp2_with fail
  refine bodyPost_ret (v := .agg #[.float .f32 r, .float .f32 s', .float .f32 t]) (by simp [results, Try.results31, go_sem, hc]) rfl ⟨_, _, _, hr, hs, ht, rfl, (by repeat (first | with_reducible exact bl_refl _ | with_reducible assumption | with_reducible refine bl_set ?_ (by simp <;> omega) _ | with_reducible refine bl_drewN ?_ _ | with_reducible refine bl_drew ?_ | with_reducible refine bl_alloc ?_ _ | with_reducible refine bl_call ?_ (by assumption)))⟩
theorem l01Less_any (ax ay az bx b_y bz : Nat) (w : World) : Calls Try.prog 53 #[.agg #[.float .f32 ax, .float .f32 ay, .float .f32 az], .agg #[.float .f32 bx, .float .f32 b_y, .float .f32 bz]] w
    (VB w (fop .sub .f32 ax bx) (fop .sub .f32 ay b_y) (fop .sub .f32 az bz)) := by
  go_enter Try.func53, Try.ntmps53
  go_wp2_with ((with_reducible refine wpList_fop ?_); refine ⟨_, _, _, ⟨rfl, rfl, rfl, rfl⟩, ?_⟩; intro r n hr)
  rename_i r1 n1 h1 r2 n2 h2
  exact bodyPost_ret (v := .agg #[.float .f32 r1, .float .f32 r2, .float .f32 r]) (by simp [results, Try.results53, go_sem]) rfl ⟨_, _, _, h1, h2, hr, rfl, (by repeat (first | with_reducible exact bl_refl _ | with_reducible assumption | with_reducible refine bl_set ?_ (by simp <;> omega) _ | with_reducible refine bl_drewN ?_ _ | with_reducible refine bl_drew ?_ | with_reducible refine bl_alloc ?_ _ | with_reducible refine bl_call ?_ (by assumption)))⟩
theorem LessVectors_any (ax ay az bx b_y bz : Nat) (w : World) : Calls Try.prog 35 #[.agg #[.float .f32 ax, .float .f32 ay, .float .f32 az], .agg #[.float .f32 bx, .float .f32 b_y, .float .f32 bz]] w
    (VB w (fop .sub .f32 ax bx) (fop .sub .f32 ay b_y) (fop .sub .f32 az bz)) := by
  go_enter Try.func35, Try.ntmps35
  go_wp2_with ((with_reducible refine wpList_fop ?_); refine ⟨_, _, _, ⟨rfl, rfl, rfl, rfl⟩, ?_⟩; intro r n hr)
  rename_i r1 n1 h1 r2 n2 h2
  exact bodyPost_ret (v := .agg #[.float .f32 r1, .float .f32 r2, .float .f32 r]) (by simp [results, Try.results35, go_sem]) rfl ⟨_, _, _, h1, h2, hr, rfl, (by repeat (first | with_reducible exact bl_refl _ | with_reducible assumption | with_reducible refine bl_set ?_ (by simp <;> omega) _ | with_reducible refine bl_drewN ?_ _ | with_reducible refine bl_drew ?_ | with_reducible refine bl_alloc ?_ _ | with_reducible refine bl_call ?_ (by assumption)))⟩
theorem spec_LessVectors_any (ax ay az bx b_y bz : Nat) (w : World) : Calls Try.prog 34 #[.agg #[.float .f32 ax, .float .f32 ay, .float .f32 az], .agg #[.float .f32 bx, .float .f32 b_y, .float .f32 bz]] w
    (VB w (fop .sub .f32 ax bx) (fop .sub .f32 ay b_y) (fop .sub .f32 az bz)) := by
  go_enter Try.func34, Try.ntmps34
  go_wp2_with fail
  refine (l01Less_any ax ay az bx b_y bz _).mono ?_
  rintro e w1 ⟨r, s', t, hr, hs, ht, rfl, hb⟩
  obtain ⟨hc, hf⟩ := bcell hb
  go_wp2_with fail
  refine bodyPost_ret (v := .agg #[.float .f32 r, .float .f32 s', .float .f32 t]) (by simp [results, Try.results34, go_sem, hc]) rfl ⟨_, _, _, hr, hs, ht, rfl, (by repeat (first | with_reducible exact bl_refl _ | with_reducible assumption | with_reducible refine bl_set ?_ (by simp <;> omega) _ | with_reducible refine bl_drewN ?_ _ | with_reducible refine bl_drew ?_ | with_reducible refine bl_alloc ?_ _ | with_reducible refine bl_call ?_ (by assumption)))⟩
theorem l01Scale_any (ax ay az s : Nat) (w : World) : Calls Try.prog 54 #[.agg #[.float .f32 ax, .float .f32 ay, .float .f32 az], .float .f32 s] w
    (VB w (fop .mul .f32 ax s) (fop .mul .f32 ay s) (fop .mul .f32 az s)) := by
  go_enter Try.func54, Try.ntmps54
  go_wp2_with ((with_reducible refine wpList_fop ?_); refine ⟨_, _, _, ⟨rfl, rfl, rfl, rfl⟩, ?_⟩; intro r n hr)
  rename_i r1 n1 h1 r2 n2 h2
  exact bodyPost_ret (v := .agg #[.float .f32 r1, .float .f32 r2, .float .f32 r]) (by simp [results, Try.results54, go_sem]) rfl ⟨_, _, _, h1, h2, hr, rfl, (by repeat (first | with_reducible exact bl_refl _ | with_reducible assumption | with_reducible refine bl_set ?_ (by simp <;> omega) _ | with_reducible refine bl_drewN ?_ _ | with_reducible refine bl_drew ?_ | with_reducible refine bl_alloc ?_ _ | with_reducible refine bl_call ?_ (by assumption)))⟩
theorem ScaleVector_any (ax ay az s : Nat) (w : World) : Calls Try.prog 37 #[.agg #[.float .f32 ax, .float .f32 ay, .float .f32 az], .float .f32 s] w
    (VB w (fop .mul .f32 ax s) (fop .mul .f32 ay s) (fop .mul .f32 az s)) := by
  go_enter Try.func37, Try.ntmps37
  go_wp2_with ((with_reducible refine wpList_fop ?_); refine ⟨_, _, _, ⟨rfl, rfl, rfl, rfl⟩, ?_⟩; intro r n hr)
  rename_i r1 n1 h1 r2 n2 h2
  exact bodyPost_ret (v := .agg #[.float .f32 r1, .float .f32 r2, .float .f32 r]) (by simp [results, Try.results37, go_sem]) rfl ⟨_, _, _, h1, h2, hr, rfl, (by repeat (first | with_reducible exact bl_refl _ | with_reducible assumption | with_reducible refine bl_set ?_ (by simp <;> omega) _ | with_reducible refine bl_drewN ?_ _ | with_reducible refine bl_drew ?_ | with_reducible refine bl_alloc ?_ _ | with_reducible refine bl_call ?_ (by assumption)))⟩
theorem spec_ScaleVector_any (ax ay az s : Nat) (w : World) : Calls Try.prog 36 #[.agg #[.float .f32 ax, .float .f32 ay, .float .f32 az], .float .f32 s] w
    (VB w (fop .mul .f32 ax s) (fop .mul .f32 ay s) (fop .mul .f32 az s)) := by
  go_enter Try.func36, Try.ntmps36
  go_wp2_with fail
  refine (l01Scale_any ax ay az s _).mono ?_
  rintro e w1 ⟨r, s', t, hr, hs, ht, rfl, hb⟩
  obtain ⟨hc, hf⟩ := bcell hb
  go_wp2_with fail
  refine bodyPost_ret (v := .agg #[.float .f32 r, .float .f32 s', .float .f32 t]) (by simp [results, Try.results36, go_sem, hc]) rfl ⟨_, _, _, hr, hs, ht, rfl, (by repeat (first | with_reducible exact bl_refl _ | with_reducible assumption | with_reducible refine bl_set ?_ (by simp <;> omega) _ | with_reducible refine bl_drewN ?_ _ | with_reducible refine bl_drew ?_ | with_reducible refine bl_alloc ?_ _ | with_reducible refine bl_call ?_ (by assumption)))⟩
theorem crossed_any (a b c d : Nat) (w : World) : Calls Try.prog 56 #[.float .f32 a, .float .f32 b, .float .f32 c, .float .f32 d] w (FOut w .f32 (crossF a b c d)) := by
  go_enter Try.func56, Try.ntmps56
  go_wp2_with ((with_reducible refine wpList_fop ?_); refine ⟨_, _, _, ⟨rfl, rfl, rfl, rfl⟩, ?_⟩; intro r n hr)
  rename_i r1 n1 h1 r2 n2 h2
  go_ret
  exact ⟨_, _, hr.op' h1 h2, rfl, rfl⟩
theorem CrossOf_any (ax ay az bx b_y bz : Nat) (w : World) : Calls Try.prog 39 #[.agg #[.float .f32 ax, .float .f32 ay, .float .f32 az], .agg #[.float .f32 bx, .float .f32 b_y, .float .f32 bz]] w
    (VB w (crossF ay bz az b_y) (crossF az bx ax bz) (crossF ax b_y ay bx)) := by
  go_enter Try.func39, Try.ntmps39
  go_wp2
  go_region_held3 (fun w' => w'.cell? ⟨w.heap.size, 0, none⟩ = some (.float .f32 ax) ∧ w'.cell? ⟨w.heap.size, 1, none⟩ = some (.float .f32 ay) ∧ w'.cell? ⟨w.heap.size, 2, none⟩ = some (.float .f32 az) ∧ w'.cell? ⟨w.heap.size + 1, 0, none⟩ = some (.float .f32 bx) ∧ w'.cell? ⟨w.heap.size + 1, 1, none⟩ = some (.float .f32 b_y) ∧ w'.cell? ⟨w.heap.size + 1, 2, none⟩ = some (.float .f32 bz)) (simp [*, World.cell?_alloc_some, World.cell?_setCell_far, en2]) (first | (go_at_call 56; refine (crossed_any _ _ _ _ _).mono ?_; rintro e w' ⟨r, n, hr, rfl, rfl⟩))
  go_wp2
  rename_i r1 n1 h1 r2 n2 h2 _
  exact bodyPost_ret (v := .agg #[.float .f32 r1, .float .f32 r2, .float .f32 r]) (by simp [results, Try.results39, go_sem]) rfl ⟨_, _, _, h1, h2, hr, rfl, (by repeat (first | with_reducible exact bl_refl _ | with_reducible assumption | with_reducible refine bl_set ?_ (by simp <;> omega) _ | with_reducible refine bl_drewN ?_ _ | with_reducible refine bl_drew ?_ | with_reducible refine bl_alloc ?_ _ | with_reducible refine bl_call ?_ (by assumption)))⟩
theorem l01Cross_any (ax ay az bx b_y bz : Nat) (w : World) : Calls Try.prog 55 #[.agg #[.float .f32 ax, .float .f32 ay, .float .f32 az], .agg #[.float .f32 bx, .float .f32 b_y, .float .f32 bz]] w
    (VB w (crossF ay bz az b_y) (crossF az bx ax bz) (crossF ax b_y ay bx)) := by
  go_enter Try.func55, Try.ntmps55
  go_wp2_with ((with_reducible refine wpList_fop ?_); refine ⟨_, _, _, ⟨rfl, rfl, rfl, rfl⟩, ?_⟩; intro r n hr)
  rename_i r1 n1 h1 r2 n2 h2 r3 n3 h3 r4 n4 h4 r5 n5 h5 r6 n6 h6 r7 n7 h7 r8 n8 h8
  exact bodyPost_ret (v := .agg #[.float .f32 r3, .float .f32 r6, .float .f32 r]) (by simp [results, Try.results55, go_sem]) rfl ⟨_, _, _, h3.op' h1 h2, h6.op' h4 h5, hr.op' h7 h8, rfl, (by repeat (first | with_reducible exact bl_refl _ | with_reducible assumption | with_reducible refine bl_set ?_ (by simp <;> omega) _ | with_reducible refine bl_drewN ?_ _ | with_reducible refine bl_drew ?_ | with_reducible refine bl_alloc ?_ _ | with_reducible refine bl_call ?_ (by assumption)))⟩
theorem spec_CrossOf_any (ax ay az bx b_y bz : Nat) (w : World) : Calls Try.prog 38 #[.agg #[.float .f32 ax, .float .f32 ay, .float .f32 az], .agg #[.float .f32 bx, .float .f32 b_y, .float .f32 bz]] w
    (VB w (crossF ay bz az b_y) (crossF az bx ax bz) (crossF ax b_y ay bx)) := by
  go_enter Try.func38, Try.ntmps38
  go_wp2_with fail
  refine (l01Cross_any ax ay az bx b_y bz _).mono ?_
  rintro e w1 ⟨r, s', t, hr, hs, ht, rfl, hb⟩
  obtain ⟨hc, hf⟩ := bcell hb
  go_wp2_with fail
  refine bodyPost_ret (v := .agg #[.float .f32 r, .float .f32 s', .float .f32 t]) (by simp [results, Try.results38, go_sem, hc]) rfl ⟨_, _, _, hr, hs, ht, rfl, (by repeat (first | with_reducible exact bl_refl _ | with_reducible assumption | with_reducible refine bl_set ?_ (by simp <;> omega) _ | with_reducible refine bl_drewN ?_ _ | with_reducible refine bl_drew ?_ | with_reducible refine bl_alloc ?_ _ | with_reducible refine bl_call ?_ (by assumption)))⟩
theorem spec_InnerOf_any (ax ay az bx b_y bz : Nat) (w : World) : Calls Try.prog 26 #[.agg #[.float .f32 ax, .float .f32 ay, .float .f32 az], .agg #[.float .f32 bx, .float .f32 b_y, .float .f32 bz]] w
    (FB w .f32 (innerF ax ay az bx b_y bz)) := by
  go_enter Try.func26, Try.ntmps26
  go_wp2_with fail
  refine (l01Inner_any ax ay az bx b_y bz _).mono ?_
  rintro e w1 ⟨r, hr, rfl, hb⟩
  obtain ⟨hc, hf⟩ := bcell hb
  go_wp2_with fail
  go_ret
  exact ⟨_, hr, rfl, (by repeat (first | with_reducible exact bl_refl _ | with_reducible assumption | with_reducible refine bl_set ?_ (by simp <;> omega) _ | with_reducible refine bl_drewN ?_ _ | with_reducible refine bl_drew ?_ | with_reducible refine bl_alloc ?_ _ | with_reducible refine bl_call ?_ (by assumption)))⟩
end Go.Proofs.Ytnjbmcjneigcpaa
