/- The contracts of the small functions on vectors that this claim reaches. No conditions but that bits fit their kind. -/
import Derived.Test.YtpbccoobkmahlaaNum
import Derived.Deep.RegionHeld3
namespace Go.Proofs.Ytpbccoobkmahlaa
open Go.Fl Go.RowKit

theorem l01Inner_any (ax ay az bx b_y bz : Nat) (w : World) : Calls Try.prog 109 #[.agg #[.float .f32 ax, .float .f32 ay, .float .f32 az], .agg #[.float .f32 bx, .float .f32 b_y, .float .f32 bz]] w
    (FB w .f32 (innerF ax ay az bx b_y bz)) := by
  go_enter Try.func109, Try.ntmps109
  go_wp2_with ((with_reducible refine wpList_fop ?_); refine ⟨_, _, _, ⟨rfl, rfl, rfl, rfl⟩, ?_⟩; intro r n hr)
  rename_i r1 n1 h1 r2 n2 h2 r3 n3 h3 r4 n4 h4
  go_ret
  exact ⟨_, hr.op' (h3.op' h1 h2) h4, rfl, bl_drewN (bl_alloc (bl_alloc (bl_refl _) _) _) _⟩
theorem InnerOf_any (ax ay az bx b_y bz : Nat) (w : World) : Calls Try.prog 111 #[.agg #[.float .f32 ax, .float .f32 ay, .float .f32 az], .agg #[.float .f32 bx, .float .f32 b_y, .float .f32 bz]] w
    (FB w .f32 (innerF ax ay az bx b_y bz)) := by
  go_enter Try.func111, Try.ntmps111
  go_wp2_with ((with_reducible refine wpList_fop ?_); refine ⟨_, _, _, ⟨rfl, rfl, rfl, rfl⟩, ?_⟩; intro r n hr)
  rename_i r1 n1 h1 r2 n2 h2 r3 n3 h3 r4 n4 h4
  go_ret
  exact ⟨_, hr.op' (h3.op' h1 h2) h4, rfl, bl_drewN (bl_alloc (bl_alloc (bl_refl _) _) _) _⟩
theorem ne2 (a : Nat) : (a = a + 1 + 1) = False := by simp; omega
theorem en2 (a : Nat) : (a + 1 + 1 = a) = False := by simp; omega
theorem ne3 (a : Nat) : (a = a + 1 + 1 + 1) = False := by simp; omega
theorem en3 (a : Nat) : (a + 1 + 1 + 1 = a) = False := by simp; omega
theorem ne4 (a : Nat) : (a = a + 1 + 1 + 1 + 1) = False := by simp; omega
theorem en4 (a : Nat) : (a + 1 + 1 + 1 + 1 = a) = False := by simp; omega
theorem bcell {W w1 : World} (hb : Below W.heap.size W w1) : (∀ b o, b < W.heap.size → w1.cell? ⟨b, o, none⟩ = W.cell? ⟨b, o, none⟩) ∧ (∀ b o, b < W.heap.size → w1.frozen? ⟨b, o, none⟩ = W.frozen? ⟨b, o, none⟩) :=
  ⟨fun b o h => hb.cell (p := ⟨b, o, none⟩) h, fun b o h => hb.frozen (p := ⟨b, o, none⟩) h⟩

end Go.Proofs.Ytpbccoobkmahlaa
