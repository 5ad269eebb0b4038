/- The union of shapes in plain terms; a shape of its own. No conditions but bounds. -/
import Derived.Test.YtpbccoobkmahlaaShapesT
import Derived.Test.YtpbccoobkmahlaaGLawD
namespace Go.Proofs.Ytpbccoobkmahlaa
open Go.Fl Go.RowKit

def unStep (p : List Nd × Bool) (S : List Nd) : List Nd × Bool := if p.2 = true then (joinL 5 p.1 S [], joinB 5 p.1 S []) else ([], false)
/-- The union of the first j shapes, and whether there is one. -/
def un (LL : List (List Nd)) : Nat → List Nd × Bool
  | 0 => (shV (sh_ LL 0), valid (sh_ LL 0))
  | j + 1 => if j = 0 then (shV (sh_ LL 0), valid (sh_ LL 0)) else unStep (un LL j) (sh_ LL j)
theorem un_one (LL : List (List Nd)) : un LL 1 = (shV (sh_ LL 0), valid (sh_ LL 0)) := rfl
theorem un_succ {LL : List (List Nd)} {j : Nat} (h : 1 ≤ j) : un LL (j + 1) = unStep (un LL j) (sh_ LL j) := by
  show (if j = 0 then _ else _) = _
  rw [if_neg (by omega)]
theorem join_off {k : Int} {A B : List Nd} {xs : List Nat} (h : joinB k A B xs = false) : joinL k A B xs = [] := by
  unfold joinB at h
  unfold joinL
  split at h
  · rename_i hc
    rw [if_pos hc]; exact shV_no h
  · rename_i hc
    rw [if_neg hc]
theorem un_off (LL : List (List Nd)) : ∀ j, (un LL j).2 = false → (un LL j).1 = []
  | 0, h => shV_no h
  | j + 1, h => by
    by_cases hj : j = 0
    · subst hj; exact shV_no h
    · rw [un_succ (by omega)] at h ⊢
      unfold unStep at h ⊢
      split at h
      · rename_i hc
        rw [if_pos hc]; exact join_off h
      · rename_i hc
        rw [if_neg hc]
theorem un_stay (LL : List (List Nd)) {j : Nat} (hj : 1 ≤ j) (h : (un LL j).2 = false) : ∀ m, (un LL (j + m)).2 = false
  | 0 => h
  | m + 1 => by
    have e : j + (m + 1) = (j + m) + 1 := rfl
    rw [e, un_succ (by omega)]
    unfold unStep
    rw [un_stay LL hj h m]; rfl
theorem un_small (LL : List (List Nd)) : ∀ j, (un LL j).1.length ≤ 16 ∧ sumX (un LL j).1 ≤ 64
  | 0 => shV_small _
  | j + 1 => by
    by_cases hj : j = 0
    · subst hj; exact shV_small _
    · rw [un_succ (by omega)]
      unfold unStep
      split
      · exact join_small _ _ _ _
      · exact ⟨by simp, by simp [sumX]⟩
theorem mod_small {L : List Nd} (h : L.length ≤ 16 ∧ sumX L ≤ 64) : Mod L := ⟨by omega, fun d hd => by have := sumX_mem hd; omega⟩
def unionL (LL : List (List Nd)) : List Nd := if 1 ≤ LL.length ∧ LL.length ≤ 16 then (un LL LL.length).1 else []
def unionB (LL : List (List Nd)) : Bool := if 1 ≤ LL.length ∧ LL.length ≤ 16 then (un LL LL.length).2 else false
theorem union_no {LL : List (List Nd)} (h : ¬ (1 ≤ LL.length ∧ LL.length ≤ 16)) : unionL LL = [] ∧ unionB LL = false := by unfold unionL unionB; rw [if_neg h, if_neg h]; exact ⟨rfl, rfl⟩
theorem union_yes {LL : List (List Nd)} (h : 1 ≤ LL.length ∧ LL.length ≤ 16) : unionL LL = (un LL LL.length).1 ∧ unionB LL = (un LL LL.length).2 := by unfold unionL unionB; rw [if_pos h, if_pos h]; exact ⟨rfl, rfl⟩
theorem union_off {LL : List (List Nd)} {j : Nat} (h : 1 ≤ LL.length ∧ LL.length ≤ 16) (hj : 1 ≤ j) (hl : j ≤ LL.length) (ho : (un LL j).2 = false) : unionL LL = [] ∧ unionB LL = false := by
  have := un_stay LL hj ho (LL.length - j)
  rw [show j + (LL.length - j) = LL.length by omega] at this
  obtain ⟨e1, e2⟩ := union_yes h
  exact ⟨by rw [e1]; exact un_off LL _ this, by rw [e2]; exact this⟩
theorem union_small (LL : List (List Nd)) : (unionL LL).length ≤ 16 ∧ sumX (unionL LL) ≤ 64 := by
  unfold unionL
  split
  · exact un_small _ _
  · exact ⟨by simp, by simp [sumX]⟩
/-- A store into a block that holds one shape turns no shape. -/
theorem OwnSh.set1 {w : World} {lo hi g : Nat} {v x : Value} {L : List Nd} (h : OwnSh w lo hi v L) (hB : Bl1 w g x) (y : Value) : OwnSh (w.setCell ⟨g, 0, none⟩ y) lo hi v L := by
  obtain ⟨P, e, h1, h2, h3, h4, h5⟩ := h
  exact ⟨P, e, row_set1 h1 hB (by decide) y, h2, fun p hp => (h3 p hp).set1 hB y, h4, by simpa [World.setCell] using h5⟩
def S1Own (w : World) (M : List Nd) : Ending → World → Prop := fun e w' => ∃ u, e = .returned (.agg #[u]) ∧ OwnSh w' w.heap.size w'.heap.size u M ∧ Below w.heap.size w w'
set_option maxHeartbeats 1000000 in
set_option maxRecDepth 100000 in
theorem l02Own_any (b : Nat) (v : Value) (L : List Nd) (w : World) (hcell : w.cell? ⟨b, 0, none⟩ = some v) (h : NodesIn w v L) (hV : valid L = true) :
    Calls Try.prog 50 #[.pointer (some ⟨b, 0, none⟩)] w (S1Own w L) := by
  have hb0 := bl1 w (.cells #[.slice none 0 0] 26)
  have hE := Gath.nil (World.ownsRow_made (base := (w.alloc (.cells #[.slice none 0 0] 26)).heap.size) (e := 78) (size := 4) (w.alloc (.cells #[.slice none 0 0] 26)) #[] 0 (Nat.le_refl _) (by decide) (by simp))
  have hb1 := bl1 (w.alloc (.cells #[.slice none 0 0] 26)) (.cells #[] 78)
  obtain ⟨av, cv, rfl, _⟩ := id h
  have HP := Lib.hid (fun (w1 : World) (u : Value) W hc (hW : NodesIn w1 (.slice av L.length cv) L) h0 hg => by
    have := l02Put_any b 0 (.slice av L.length cv) u L [] w1 W hc hW hV h0 hg (by simp) (by omega)
    rw [sh_zero, List.nil_append] at this
    exact this)
  have hcell0 := cellk hcell hb0
  have hN0 := h.keep hb0
  have HE := Lib.hid (show Gath ((w.alloc (.cells #[.slice none 0 0] 26)).alloc (.cells #[] 78)) (w.alloc (.cells #[.slice none 0 0] 26)).heap.size (.slice (some ⟨w.heap.size + 1, 0, none⟩) 0 0) [] by
    have hz : (w.alloc (.cells #[.slice none 0 0] 26)).heap.size = w.heap.size + 1 := by simp
    rw [← hz]; exact hE)
  clear h hV hcell hE
  go_enter Try.func50, Try.ntmps50
  go_wp2_with (go_at_call 72; refine (Calls.mono (by exact HP.out _ _ _ hcell0 hN0 hb1 HE.out) ?_); rintro e w3 ⟨u3, rfl, hG3, hb3⟩; obtain ⟨a3, n3, hu3⟩ := hG3.form; subst hu3; have hR4 : Bl1 w3 w.heap.size (.slice none 0 0) := Bl1.keep (Bl1.new w (.slice none 0 0)) hb3; have r0 := hR4.cell; have fr := hR4.frozen)
  refine bodyPost_ret (results_cell_row rfl _ _ w.heap.size 26 _ (0, 0) _ rfl (Bl1.set hR4 _) Try.underlying26 rfl (by kernel_rfl)) rfl ?_
  exact ⟨_, rfl, OwnSh.mono (hG3.own.low (p := ⟨w.heap.size, 0, none⟩) (by simp) _) (by simp) (by simp [World.setCell]) (Nat.le_refl _), bl_set (bl_call hb0 hb3) (Nat.le_refl _) _⟩
end Go.Proofs.Ytpbccoobkmahlaa
