/- The axis and the children of a node. No conditions. -/
import Derived.Test.YtpbccoobkmahlaaNums
namespace Go.Proofs.Ytpbccoobkmahlaa
open Go.Fl Go.RowKit

theorem box4c (w : World) (a b c d : Value) (t : TypeId) : (w.alloc (.cells #[a, b, c, d] t)).cell? ⟨w.heap.size, 0, none⟩ = some a ∧ (w.alloc (.cells #[a, b, c, d] t)).cell? ⟨w.heap.size, 1, none⟩ = some b ∧ (w.alloc (.cells #[a, b, c, d] t)).cell? ⟨w.heap.size, 2, none⟩ = some c :=
  ⟨(cell_of_row _ _ 0 #[a, b, c, d] t (0, 0) (heap_alloc_new w _)).trans rfl, (cell_of_row _ _ 1 #[a, b, c, d] t (0, 0) (heap_alloc_new w _)).trans rfl, (cell_of_row _ _ 2 #[a, b, c, d] t (0, 0) (heap_alloc_new w _)).trans rfl⟩
theorem kids_cases (k : Int) : kidsK k = 0 ∨ kidsK k = 1 ∨ kidsK k = 2 := by have := kids_le k; omega
theorem rule_at {k K : Int} {A : Bool} (h : ((kidsK k : Nat) : Int) = K) (ha : axK k = A) (w : World) : Calls Try.prog 73 #[.int .i64 k] w
    fun e w' => e = .returned (.tuple #[.agg #[.int .i64 (cntK k : Nat), .int .i64 K, .bool A, .int .i64 (sgK k : Nat)], .bool (okK k)]) ∧ Below w.heap.size w w' := by
  rw [← h, ← ha]; exact ruleOf_any k w
/-- The cells of a node, as a walk reads them. -/
theorem NdAt.facts {w : World} {g o : Nat} {d : Nd} (h : NdAt w g o d) : w.cell? ⟨g, o, none⟩ = some (.int .i64 d.k) ∧ w.cell? ⟨g, o + 1, none⟩ = some (.int .i64 d.a) ∧ w.cell? ⟨g, o + 2, none⟩ = some (.int .i64 d.b) := ⟨h.1, h.2.1, h.2.2.1⟩
set_option maxHeartbeats 2000000 in
theorem axisOk_any (g o : Nat) (d : Nd) (w : World) (h : NdAt w g o d) : Calls Try.prog 62 #[.pointer (some ⟨g, o, none⟩)] w (BB w (axB d)) := by
  obtain ⟨c0, c1, c2⟩ := h.facts
  have H := Lib.hid h
  clear h
  rcases kids_cases d.k with hK | hK | hK
  · cases ha : (d.a == 0)
    · skip
      have HR := Lib.hid (show axB d = _ by unfold axB; rw [hK, ha])
      have HK := Lib.hid (show ((kidsK d.k : Nat) : Int) = 0 by rw [hK]; rfl)
      have HA := Lib.hid (show axK d.k = axK d.k from rfl)
      clear hK
      go_enter Try.func62, Try.ntmps62
      go_wp2_with (first | (go_at_call 73; refine (rule_at (K := 0) HK.out HA.out _).mono ?_; rintro e w1 ⟨rfl, hb1⟩; have hb2 := bl_alloc hb1 (.cells #[.int .i64 (cntK d.k : Nat), .int .i64 0, .bool (axK d.k), .int .i64 (sgK d.k : Nat)] 93); obtain ⟨e0, e1, e2⟩ := (H.out.keep hb2).facts; obtain ⟨r0, r1, r2⟩ := box4c w1 (.int .i64 (cntK d.k : Nat)) (.int .i64 0) (.bool (axK d.k)) (.int .i64 (sgK d.k : Nat)) 93) | (go_at_call 51; refine (in_any _ _ _ _).mono ?_; rintro e w' ⟨rfl, rfl⟩))
      go_ret
      exact ⟨ret_bool (by rw [HR.out]; simp), by first | exact hb2 | exact bl_drewN hb2 _⟩
    · cases hb : (d.b == 0)
      · cases hx : axK d.k
        · skip
          have HR := Lib.hid (show axB d = _ by unfold axB; rw [hK, ha, hb, hx])
          have HK := Lib.hid (show ((kidsK d.k : Nat) : Int) = 0 by rw [hK]; rfl)
          have HA := Lib.hid (show axK d.k = false from hx)
          clear hK hx
          go_enter Try.func62, Try.ntmps62
          go_wp2_with (first | (go_at_call 73; refine (rule_at (K := 0) HK.out HA.out _).mono ?_; rintro e w1 ⟨rfl, hb1⟩; have hb2 := bl_alloc hb1 (.cells #[.int .i64 (cntK d.k : Nat), .int .i64 0, .bool (false), .int .i64 (sgK d.k : Nat)] 93); obtain ⟨e0, e1, e2⟩ := (H.out.keep hb2).facts; obtain ⟨r0, r1, r2⟩ := box4c w1 (.int .i64 (cntK d.k : Nat)) (.int .i64 0) (.bool (false)) (.int .i64 (sgK d.k : Nat)) 93) | (go_at_call 51; refine (in_any _ _ _ _).mono ?_; rintro e w' ⟨rfl, rfl⟩))
          go_ret
          exact ⟨ret_bool (by rw [HR.out]; simp), by first | exact hb2 | exact bl_drewN hb2 _⟩
        · skip
          have HR := Lib.hid (show axB d = _ by unfold axB; rw [hK, ha, hb, hx])
          have HK := Lib.hid (show ((kidsK d.k : Nat) : Int) = 0 by rw [hK]; rfl)
          have HA := Lib.hid (show axK d.k = true from hx)
          clear hK hx
          go_enter Try.func62, Try.ntmps62
          go_wp2_with (first | (go_at_call 73; refine (rule_at (K := 0) HK.out HA.out _).mono ?_; rintro e w1 ⟨rfl, hb1⟩; have hb2 := bl_alloc hb1 (.cells #[.int .i64 (cntK d.k : Nat), .int .i64 0, .bool (true), .int .i64 (sgK d.k : Nat)] 93); obtain ⟨e0, e1, e2⟩ := (H.out.keep hb2).facts; obtain ⟨r0, r1, r2⟩ := box4c w1 (.int .i64 (cntK d.k : Nat)) (.int .i64 0) (.bool (true)) (.int .i64 (sgK d.k : Nat)) 93) | (go_at_call 51; refine (in_any _ _ _ _).mono ?_; rintro e w' ⟨rfl, rfl⟩))
          go_ret
          exact ⟨ret_bool (by rw [HR.out]; simp), by first | exact hb2 | exact bl_drewN hb2 _⟩
      · skip
        have HR := Lib.hid (show axB d = _ by unfold axB; rw [hK, ha, hb])
        have HK := Lib.hid (show ((kidsK d.k : Nat) : Int) = 0 by rw [hK]; rfl)
        have HA := Lib.hid (show axK d.k = axK d.k from rfl)
        clear hK
        go_enter Try.func62, Try.ntmps62
        go_wp2_with (first | (go_at_call 73; refine (rule_at (K := 0) HK.out HA.out _).mono ?_; rintro e w1 ⟨rfl, hb1⟩; have hb2 := bl_alloc hb1 (.cells #[.int .i64 (cntK d.k : Nat), .int .i64 0, .bool (axK d.k), .int .i64 (sgK d.k : Nat)] 93); obtain ⟨e0, e1, e2⟩ := (H.out.keep hb2).facts; obtain ⟨r0, r1, r2⟩ := box4c w1 (.int .i64 (cntK d.k : Nat)) (.int .i64 0) (.bool (axK d.k)) (.int .i64 (sgK d.k : Nat)) 93) | (go_at_call 51; refine (in_any _ _ _ _).mono ?_; rintro e w' ⟨rfl, rfl⟩))
        go_ret
        exact ⟨ret_bool (by rw [HR.out]; simp), by first | exact hb2 | exact bl_drewN hb2 _⟩
  · cases hb : (d.b == 0)
    · cases hx : axK d.k
      · skip
        have HR := Lib.hid (show axB d = _ by unfold axB; rw [hK, hb, hx])
        have HK := Lib.hid (show ((kidsK d.k : Nat) : Int) = 1 by rw [hK]; rfl)
        have HA := Lib.hid (show axK d.k = false from hx)
        clear hK hx
        go_enter Try.func62, Try.ntmps62
        go_wp2_with (first | (go_at_call 73; refine (rule_at (K := 1) HK.out HA.out _).mono ?_; rintro e w1 ⟨rfl, hb1⟩; have hb2 := bl_alloc hb1 (.cells #[.int .i64 (cntK d.k : Nat), .int .i64 1, .bool (false), .int .i64 (sgK d.k : Nat)] 93); obtain ⟨e0, e1, e2⟩ := (H.out.keep hb2).facts; obtain ⟨r0, r1, r2⟩ := box4c w1 (.int .i64 (cntK d.k : Nat)) (.int .i64 1) (.bool (false)) (.int .i64 (sgK d.k : Nat)) 93) | (go_at_call 51; refine (in_any _ _ _ _).mono ?_; rintro e w' ⟨rfl, rfl⟩))
        go_ret
        exact ⟨ret_bool (by rw [HR.out]; simp), by first | exact hb2 | exact bl_drewN hb2 _⟩
      · skip
        have HR := Lib.hid (show axB d = _ by unfold axB; rw [hK, hb, hx])
        have HK := Lib.hid (show ((kidsK d.k : Nat) : Int) = 1 by rw [hK]; rfl)
        have HA := Lib.hid (show axK d.k = true from hx)
        clear hK hx
        go_enter Try.func62, Try.ntmps62
        go_wp2_with (first | (go_at_call 73; refine (rule_at (K := 1) HK.out HA.out _).mono ?_; rintro e w1 ⟨rfl, hb1⟩; have hb2 := bl_alloc hb1 (.cells #[.int .i64 (cntK d.k : Nat), .int .i64 1, .bool (true), .int .i64 (sgK d.k : Nat)] 93); obtain ⟨e0, e1, e2⟩ := (H.out.keep hb2).facts; obtain ⟨r0, r1, r2⟩ := box4c w1 (.int .i64 (cntK d.k : Nat)) (.int .i64 1) (.bool (true)) (.int .i64 (sgK d.k : Nat)) 93) | (go_at_call 51; refine (in_any _ _ _ _).mono ?_; rintro e w' ⟨rfl, rfl⟩))
        go_ret
        exact ⟨ret_bool (by rw [HR.out]; simp), by first | exact hb2 | exact bl_drewN hb2 _⟩
    · skip
      have HR := Lib.hid (show axB d = _ by unfold axB; rw [hK, hb])
      have HK := Lib.hid (show ((kidsK d.k : Nat) : Int) = 1 by rw [hK]; rfl)
      have HA := Lib.hid (show axK d.k = axK d.k from rfl)
      clear hK
      go_enter Try.func62, Try.ntmps62
      go_wp2_with (first | (go_at_call 73; refine (rule_at (K := 1) HK.out HA.out _).mono ?_; rintro e w1 ⟨rfl, hb1⟩; have hb2 := bl_alloc hb1 (.cells #[.int .i64 (cntK d.k : Nat), .int .i64 1, .bool (axK d.k), .int .i64 (sgK d.k : Nat)] 93); obtain ⟨e0, e1, e2⟩ := (H.out.keep hb2).facts; obtain ⟨r0, r1, r2⟩ := box4c w1 (.int .i64 (cntK d.k : Nat)) (.int .i64 1) (.bool (axK d.k)) (.int .i64 (sgK d.k : Nat)) 93) | (go_at_call 51; refine (in_any _ _ _ _).mono ?_; rintro e w' ⟨rfl, rfl⟩))
      go_ret
      exact ⟨ret_bool (by rw [HR.out]; simp), by first | exact hb2 | exact bl_drewN hb2 _⟩
  · skip
    have HR := Lib.hid (show axB d = _ by unfold axB; rw [hK])
    have HK := Lib.hid (show ((kidsK d.k : Nat) : Int) = 2 by rw [hK]; rfl)
    have HA := Lib.hid (show axK d.k = axK d.k from rfl)
    clear hK
    go_enter Try.func62, Try.ntmps62
    go_wp2_with (first | (go_at_call 73; refine (rule_at (K := 2) HK.out HA.out _).mono ?_; rintro e w1 ⟨rfl, hb1⟩; have hb2 := bl_alloc hb1 (.cells #[.int .i64 (cntK d.k : Nat), .int .i64 2, .bool (axK d.k), .int .i64 (sgK d.k : Nat)] 93); obtain ⟨e0, e1, e2⟩ := (H.out.keep hb2).facts; obtain ⟨r0, r1, r2⟩ := box4c w1 (.int .i64 (cntK d.k : Nat)) (.int .i64 2) (.bool (axK d.k)) (.int .i64 (sgK d.k : Nat)) 93) | (go_at_call 51; refine (in_any _ _ _ _).mono ?_; rintro e w' ⟨rfl, rfl⟩))
    go_ret
    exact ⟨ret_bool (by rw [HR.out]; simp), by first | exact hb2 | exact bl_drewN hb2 _⟩
theorem box2c (w : World) (a b : Value) (t : TypeId) : (w.alloc (.cells #[a, b] t)).cell? ⟨w.heap.size, 0, none⟩ = some a ∧ (w.alloc (.cells #[a, b] t)).cell? ⟨w.heap.size, 1, none⟩ = some b :=
  ⟨(cell_of_row _ _ 0 #[a, b] t (0, 0) (heap_alloc_new w _)).trans rfl, (cell_of_row _ _ 1 #[a, b] t (0, 0) (heap_alloc_new w _)).trans rfl⟩
theorem box2n (w : World) (o : Obj) (a b : Value) (t : TypeId) : ((w.alloc o).alloc (.cells #[a, b] t)).drew.cell? ⟨w.heap.size + 1, 0, none⟩ = some a ∧ ((w.alloc o).alloc (.cells #[a, b] t)).drew.cell? ⟨w.heap.size + 1, 1, none⟩ = some b := by
  have e : w.heap.size + 1 = (w.alloc o).heap.size := by simp
  rw [e]; exact box2c (w.alloc o) a b t
def KidsAt (w : World) (d : Nd) (w' : World) (q : Nat) : Prop := w.heap.size ≤ q ∧ w'.cell? ⟨q, 0, none⟩ = some (.int .i64 d.a) ∧ w'.cell? ⟨q, 1, none⟩ = some (.int .i64 d.b)
theorem kidsS {w0 : World} {g o g1 : Nat} {a b : Int} (K : Int) (W : World) (h : w0.cell? ⟨g, o + 1, none⟩ = some (.int .i64 a) ∧ w0.cell? ⟨g, o + 2, none⟩ = some (.int .i64 b) ∧ w0.cell? ⟨g1, 1, none⟩ = some (.int .i64 K)) (hb : Below w0.heap.size w0 W) :
    W.cell? ⟨g, o + 1, none⟩ = some (.int .i64 a) ∧ W.cell? ⟨g, o + 2, none⟩ = some (.int .i64 b) ∧ W.cell? ⟨g1, 1, none⟩ = some (.int .i64 K) := ⟨cellk h.1 hb, cellk h.2.1 hb, cellk h.2.2 hb⟩
set_option maxHeartbeats 2000000 in
theorem childrenOf_any (g o : Nat) (d : Nd) (w : World) (h : NdAt w g o d) : Calls Try.prog 63 #[.pointer (some ⟨g, o, none⟩)] w
    fun e w' => ∃ q, e = .returned (.slice (some ⟨q, 0, none⟩) (kidsK d.k) 2) ∧ KidsAt w d w' q ∧ Below w.heap.size w w' := by
  obtain ⟨c0, c1, c2⟩ := h.facts
  have H := Lib.hid h
  clear h
  rcases kids_cases d.k with hK | hK | hK
  · have HK := Lib.hid (show ((kidsK d.k : Nat) : Int) = 0 by rw [hK]; rfl)
    have HA := Lib.hid (show axK d.k = axK d.k from rfl)
    rw [hK]
    clear hK
    go_enter Try.func63, Try.ntmps63
    go_wp2_with (first | (go_at_call 73; refine (rule_at (K := 0) HK.out HA.out _).mono ?_; rintro e w1 ⟨rfl, hb1⟩; have hb2 := bl_alloc hb1 (.cells #[.int .i64 (cntK d.k : Nat), .int .i64 0, .bool (axK d.k), .int .i64 (sgK d.k : Nat)] 93); obtain ⟨e0, e1, e2⟩ := (H.out.keep hb2).facts; obtain ⟨r0, r1, r2⟩ := box4c w1 (.int .i64 (cntK d.k : Nat)) (.int .i64 0) (.bool (axK d.k)) (.int .i64 (sgK d.k : Nat)) 93))
    have HS := Lib.hid (fun W hb => kidsS 0 W (And.intro e1 (And.intro e2 r1)) hb)
    clear c0 c1 c2 e0 e1 e2 r0 r1 r2
    go_region_held3 (fun W => W.cell? ⟨g, o + 1, none⟩ = some (.int .i64 d.a) ∧ W.cell? ⟨g, o + 2, none⟩ = some (.int .i64 d.b) ∧ W.cell? ⟨w1.heap.size, 1, none⟩ = some (.int .i64 0)) (exact HS.out _ (by first | exact bl_drew (bl_refl _) | exact bl_alloc (bl_drew (bl_refl _)) _)) (first | fail)
    all_goals (go_wp2_with fail; go_ret)
    all_goals exact ⟨_, rfl, ⟨Nat.le_trans hb1.size (by simp), box2n _ _ _ _ _⟩, bl_drew (bl_alloc hb2 _)⟩
  · have HK := Lib.hid (show ((kidsK d.k : Nat) : Int) = 1 by rw [hK]; rfl)
    have HA := Lib.hid (show axK d.k = axK d.k from rfl)
    rw [hK]
    clear hK
    go_enter Try.func63, Try.ntmps63
    go_wp2_with (first | (go_at_call 73; refine (rule_at (K := 1) HK.out HA.out _).mono ?_; rintro e w1 ⟨rfl, hb1⟩; have hb2 := bl_alloc hb1 (.cells #[.int .i64 (cntK d.k : Nat), .int .i64 1, .bool (axK d.k), .int .i64 (sgK d.k : Nat)] 93); obtain ⟨e0, e1, e2⟩ := (H.out.keep hb2).facts; obtain ⟨r0, r1, r2⟩ := box4c w1 (.int .i64 (cntK d.k : Nat)) (.int .i64 1) (.bool (axK d.k)) (.int .i64 (sgK d.k : Nat)) 93))
    have HS := Lib.hid (fun W hb => kidsS 1 W (And.intro e1 (And.intro e2 r1)) hb)
    clear c0 c1 c2 e0 e1 e2 r0 r1 r2
    go_region_held3 (fun W => W.cell? ⟨g, o + 1, none⟩ = some (.int .i64 d.a) ∧ W.cell? ⟨g, o + 2, none⟩ = some (.int .i64 d.b) ∧ W.cell? ⟨w1.heap.size, 1, none⟩ = some (.int .i64 1)) (exact HS.out _ (by first | exact bl_drew (bl_refl _) | exact bl_alloc (bl_drew (bl_refl _)) _)) (first | fail)
    all_goals (go_wp2_with fail; go_ret)
    all_goals exact ⟨_, rfl, ⟨Nat.le_trans hb1.size (by simp), box2n _ _ _ _ _⟩, bl_drew (bl_alloc hb2 _)⟩
  · have HK := Lib.hid (show ((kidsK d.k : Nat) : Int) = 2 by rw [hK]; rfl)
    have HA := Lib.hid (show axK d.k = axK d.k from rfl)
    rw [hK]
    clear hK
    go_enter Try.func63, Try.ntmps63
    go_wp2_with (first | (go_at_call 73; refine (rule_at (K := 2) HK.out HA.out _).mono ?_; rintro e w1 ⟨rfl, hb1⟩; have hb2 := bl_alloc hb1 (.cells #[.int .i64 (cntK d.k : Nat), .int .i64 2, .bool (axK d.k), .int .i64 (sgK d.k : Nat)] 93); obtain ⟨e0, e1, e2⟩ := (H.out.keep hb2).facts; obtain ⟨r0, r1, r2⟩ := box4c w1 (.int .i64 (cntK d.k : Nat)) (.int .i64 2) (.bool (axK d.k)) (.int .i64 (sgK d.k : Nat)) 93))
    have HS := Lib.hid (fun W hb => kidsS 2 W (And.intro e1 (And.intro e2 r1)) hb)
    clear c0 c1 c2 e0 e1 e2 r0 r1 r2
    go_region_held3 (fun W => W.cell? ⟨g, o + 1, none⟩ = some (.int .i64 d.a) ∧ W.cell? ⟨g, o + 2, none⟩ = some (.int .i64 d.b) ∧ W.cell? ⟨w1.heap.size, 1, none⟩ = some (.int .i64 2)) (exact HS.out _ (by first | exact bl_drew (bl_refl _) | exact bl_alloc (bl_drew (bl_refl _)) _)) (first | fail)
    all_goals (go_wp2_with fail; go_ret)
    all_goals exact ⟨_, rfl, ⟨Nat.le_trans hb1.size (by simp), box2n _ _ _ _ _⟩, bl_drew (bl_alloc hb2 _)⟩
end Go.Proofs.Ytpbccoobkmahlaa
