/- A shape given if it is right; a shape of one node. No conditions but bounds. -/
import Derived.Test.YtpbccoobkmahlaaToldS
namespace Go.Proofs.Ytpbccoobkmahlaa
open Go.Fl Go.RowKit

theorem results_shape' {fn : Func} {p u : Tmp} (h : fn.results = #[.cell p 26, .tmp u]) (tmps : Array Value) (w : World) (g : Nat) (x : Value) (hp : tmps.getD p undef = .pointer (some ⟨g, 0, none⟩)) (hg : Bl1 w g x) (y : Value) (hy : tmps.getD u undef = y) :
    (results fn tmps).run Try.prog w = .ok (.tuple #[.agg #[x], y]) w := by rw [results_shape h tmps w g x hp hg, hy]
/-- A call's answer that is a shape in given memory and whether there is one. -/
def GOut (w : World) (lo hi : Nat) (M : List Nd) (b : Bool) : Ending → World → Prop := fun e w' => ∃ u, e = .returned (.tuple #[.agg #[u], .bool b]) ∧ OwnSh w' lo hi u M ∧ Below w.heap.size w w'
set_option maxHeartbeats 2000000 in
theorem l02Give_any (v : Value) (L : List Nd) (lo hi : Nat) (w : World) (h : OwnSh w lo hi v L) (hm : Mod L) : Calls Try.prog 70 #[v] w (GOut w lo hi (shV L) (valid L)) := by
  have hsz : hi ≤ w.heap.size := by obtain ⟨P, _, hP⟩ := h; exact hP.2.2.2.2
  obtain ⟨av, cv, rfl, _⟩ := id h.nodes
  have hb0 := bl2 w (.cells #[.slice none 0 0] 26) (.cells #[.slice av L.length cv] 26)
  have hA : Bl1 ((w.alloc (.cells #[.slice none 0 0] 26)).alloc (.cells #[.slice av L.length cv] 26)) w.heap.size (.slice none 0 0) := (Below.heap_alloc _ _ _ (by simp)).trans (heap_alloc_new w _)
  have hB : Bl1 ((w.alloc (.cells #[.slice none 0 0] 26)).alloc (.cells #[.slice av L.length cv] 26)) (w.heap.size + 1) (.slice av L.length cv) := by
    have e : w.heap.size + 1 = (w.alloc (.cells #[.slice none 0 0] 26)).heap.size := by simp
    rw [e]; exact heap_alloc_new _ _
  have H := Lib.hid h
  have HM := Lib.hid hm
  have hbx := hB.cell
  have HA := Lib.hid hA
  have HB := Lib.hid hB
  clear h hm hA hB
  cases hV : valid L
  · have hN := shV_no hV
    rw [hN]
    have HC := Lib.hid (fun W hc hW => l02Is_at hV (w.heap.size + 1) 0 (.slice av L.length cv) W hc hW HM.out)
    clear hV hN
    go_enter Try.func70, Try.ntmps70
    go_wp2_with (go_at_call 49; refine (Calls.mono (by exact HC.out _ hbx (H.out.nodes.keep hb0)) ?_); rintro e w1 ⟨rfl, hb1⟩; have hA1 := HA.out.keep hb1; have r0 := hA1.cell; have fr := hA1.frozen)
    refine bodyPost_ret (results_shape rfl _ _ w.heap.size _ rfl (Bl1.set hA1 _)) rfl ?_
    exact ⟨_, rfl, OwnSh.nil _ _ _ (by have := (bl_call hb0 hb1).size; simp [World.setCell]; omega), bl_set (bl_call hb0 hb1) (Nat.le_refl _) _⟩
  · have hY := shV_yes hV
    rw [hY]
    have HC := Lib.hid (fun W hc hW => l02Is_at hV (w.heap.size + 1) 0 (.slice av L.length cv) W hc hW HM.out)
    clear hV hY
    go_enter Try.func70, Try.ntmps70
    go_wp2_with (go_at_call 49; refine (Calls.mono (by exact HC.out _ hbx (H.out.nodes.keep hb0)) ?_); rintro e w1 ⟨rfl, hb1⟩; have hA1 := HA.out.keep hb1; have hB1 := HB.out.keep hb1; have e1 := bl_call hb0 hb1; have r0 := hA1.cell; have fr := hA1.frozen; have r1 := hB1.cell)
    refine bodyPost_ret (results_shape rfl _ _ w.heap.size _ rfl (Bl1.set hA1 _)) rfl ?_
    exact ⟨_, rfl, H.out.keep (bl_set e1 (Nat.le_refl _) _), bl_set e1 (Nat.le_refl _) _⟩
/-- One node whose numbers are new. -/
theorem OwnSh.one {w0 w1 : World} {nv : Value} {xs : List Nat} (k a b : Int) (h : NewNum w0 w1 nv xs) (hs : w0.heap.size ≤ w1.heap.size) :
    OwnSh (w1.alloc (.cells #[.int .i64 k, .int .i64 a, .int .i64 b, nv] 78)) w0.heap.size (w1.heap.size + 1) (.slice (some ⟨w1.heap.size, 0, none⟩) 1 1) [⟨k, a, b, xs⟩] := by
  obtain ⟨p, e1, e2, e3, e4⟩ := NewNum.num (d := ⟨k, a, b, xs⟩) (h.keep (bl1 w1 (.cells #[.int .i64 k, .int .i64 a, .int .i64 b, nv] 78))) (Nat.le_refl _)
  refine ⟨[p], by simp [e1], ?_, fun g hg => ?_, fun q hq => ?_, by simp, by simp⟩
  · have he : flatP [p] = [.int .i64 k, .int .i64 a, .int .i64 b, nv] := by simp [flatP, fl4, e1, e2]
    rw [he]
    exact World.ownsRow_lit w1 #[.int .i64 k, .int .i64 a, .int .i64 b, nv] 1 hs (by decide) rfl
  · simp [Value.ownBlock] at hg; omega
  · obtain rfl := List.mem_singleton.1 hq
    have := e3
    simpa using this
theorem mod_one {k a b : Int} {xs : List Nat} (h : xs.length ≤ 1048576) : Mod [⟨k, a, b, xs⟩] := ⟨by simp, fun d hd => by obtain rfl := List.mem_singleton.1 hd; exact h⟩
end Go.Proofs.Ytpbccoobkmahlaa
