/- The laws' own functions on shapes: sizes, copies, comparison. No conditions but bounds. -/
import Derived.Test.YtpbccoobkmahlaaShape
namespace Go.Proofs.Ytpbccoobkmahlaa
open Go.Fl Go.RowKit

theorem szFloat32S_any (v : Value) (xs : List Nat) (l : Nat) (w : World) (h : FIn w v xs) (hb : xs.length ≤ maxLen) (hl : l ≤ 1048576) :
    Calls Try.prog 100 #[v, .int .i64 l] w fun e w' => (xs.length ≤ l ∧ e = .returned (.int .i64 ((l - xs.length : Nat) : Int)) ∨ ¬ xs.length ≤ l ∧ e = .returned (.int .i64 (-1))) ∧ w = w' := by
  unfold maxLen at hb
  obtain ⟨a, cap, rfl, _⟩ := h
  by_cases hx : xs.length ≤ l
  · have hs : (l : Int) - xs.length = ((l - xs.length : Nat) : Int) := by omega
    have hn : decide (((l - xs.length : Nat) : Int) < 0) = false := by simp
    go_enter Try.func100, Try.ntmps100
    go_wp2
    go_ret
    exact ⟨.inl ⟨hx, by congr 2 <;> omega⟩, rfl⟩
  · go_enter Try.func100, Try.ntmps100
    go_wp2
    go_ret
    exact ⟨.inr ⟨hx, rfl⟩, rfl⟩
theorem szNode_any (k a b : Int) (v : Value) (xs : List Nat) (l : Nat) (w : World) (h : FIn w v xs) (hb : xs.length ≤ maxLen) (hl : l ≤ 1048576) :
    Calls Try.prog 85 #[.agg #[.int .i64 k, .int .i64 a, .int .i64 b, v], .int .i64 l] w fun e w' => (xs.length ≤ l ∧ e = .returned (.int .i64 ((l - xs.length : Nat) : Int)) ∨ ¬ xs.length ≤ l ∧ e = .returned (.int .i64 (-1))) ∧ Below w.heap.size w w' := by
  have hbl := bl_alloc (bl_refl w) (.cells #[.int .i64 k, .int .i64 a, .int .i64 b, v] 107)
  have hF := Lib.hid (szFloat32S_any v xs l _ (h.keep hbl) hb hl)
  by_cases hx : xs.length ≤ l
  · have hn : decide (((l - xs.length : Nat) : Int) < 0) = false := by simp
    go_enter Try.func85, Try.ntmps85
    go_wp2_with (go_at_call 100; refine (Calls.mono (by exact hF.out) ?_); rintro e w' ⟨⟨_, rfl⟩ | ⟨hno, rfl⟩, rfl⟩)
    all_goals first | exact absurd hx hno | skip
    all_goals (go_wp2_with fail; go_ret; exact ⟨.inl ⟨hx, rfl⟩, hbl⟩)
  · go_enter Try.func85, Try.ntmps85
    go_wp2_with (go_at_call 100; refine (Calls.mono (by exact hF.out) ?_); rintro e w' ⟨⟨hno, rfl⟩ | ⟨_, rfl⟩, rfl⟩)
    all_goals first | exact absurd hno hx | skip
    all_goals (go_wp2_with fail; go_ret; exact ⟨.inr ⟨hx, rfl⟩, hbl⟩)
def sumX (L : List Nd) : Nat := (L.map (·.xs.length)).sum
theorem sumX_snoc {L : List Nd} {k : Nat} {d : Nd} (hk : k < L.length) (hd : L.getD k default = d) : sumX (L.take (k + 1)) = sumX (L.take k) + d.xs.length := by
  have e : L[k] = d := by rw [← hd]; simp [hk]
  unfold sumX
  rw [List.take_succ_eq_append_getElem hk, e]; simp
theorem sumX_le : ∀ (L : List Nd) (k : Nat), sumX (L.take k) ≤ sumX L
  | [], k => by simp [sumX]
  | d :: r, 0 => by simp [sumX]
  | d :: r, k + 1 => by
    have := sumX_le r k
    unfold sumX at this ⊢
    simp only [List.take_succ_cons, List.map_cons, List.sum_cons]
    omega
theorem sumX_mem {L : List Nd} {d : Nd} (h : d ∈ L) : d.xs.length ≤ sumX L := by
  unfold sumX
  induction L with
  | nil => simp at h
  | cons e r ih =>
    rcases List.mem_cons.1 h with rfl | h
    · simp
    · have := ih h; simp; omega
def tot (L : List Nd) : Nat := L.length + sumX L
def Sz (L : List Nd) (l : Nat) (w : World) : Ending → World → Prop := fun e w' => (tot L ≤ l ∧ e = .returned (.int .i64 ((l - tot L : Nat) : Int)) ∨ ¬ tot L ≤ l ∧ e = .returned (.int .i64 (-1))) ∧ Below w.heap.size w w'
theorem Sz_no {L : List Nd} {l : Nat} {w w' : World} (h : ¬ tot L ≤ l) (hb : Below w.heap.size w w') : Sz L l w (.returned (.int .i64 (-1))) w' := ⟨.inr ⟨h, rfl⟩, hb⟩
theorem Sz_yes {L : List Nd} {l m : Nat} {w w' : World} (h : tot L ≤ l) (hm : m = l - tot L) (hb : Below w.heap.size w w') : Sz L l w (.returned (.int .i64 m)) w' := by subst hm; exact ⟨.inl ⟨h, rfl⟩, hb⟩
theorem small_get {L : List Nd} {k : Nat} {d : Nd} (h : Small L) (hk : k < L.length) (hd : L.getD k default = d) : d.xs.length ≤ maxLen := by
  have e : L[k] = d := by rw [← hd]; simp [hk]
  rw [← e]; exact (h.2 _ (List.getElem_mem hk)).1
theorem small_bits {L : List Nd} {k : Nat} {d : Nd} (h : Small L) (hk : k < L.length) (hd : L.getD k default = d) : ∀ x ∈ d.xs, x < 4294967296 := by
  have e : L[k] = d := by rw [← hd]; simp [hk]
  rw [← e]; exact (h.2 _ (List.getElem_mem hk)).2
set_option maxHeartbeats 1000000 in
set_option maxRecDepth 20000 in
theorem szNodeS_any (v : Value) (L : List Nd) (l : Nat) (w : World) (h : NodesIn w v L) (hs : Small L) (hl : l ≤ 1048576) : Calls Try.prog 56 #[v, .int .i64 l] w (Sz L l w) := by
  have h' := h
  obtain ⟨a, cap, rfl, _⟩ := h'
  have hlm : L.length ≤ 9223372036854775807 := by have := hs.1; unfold maxLen at this; omega
  have Hs := Lib.hid hs
  clear hs
  by_cases hx : L.length ≤ l
  · have H := Lib.hid h
    clear h
    have hn : decide (((l - L.length : Nat) : Int) < 0) = false := by simp
    have he : (l : Int) - L.length = ((l - L.length : Nat) : Int) := by omega
    go_enter Try.func56, Try.ntmps56
    go_wp2_with fail
    go_loopw [1, 5] (fun lv i wr => ∃ (k m : Nat), k ≤ L.length ∧ i = .int .i64 k ∧ lv = .int .i64 m ∧ m ≤ 1048576 ∧ RowKit.Hid (L.length + sumX (L.take k) ≤ l ∧ m = l - (L.length + sumX (L.take k))) ∧ Below w.heap.size w wr) (fun _ i _ => L.length - (intOf i).toNat)
    case atStart => exact ⟨0, l - L.length, Nat.zero_le _, rfl, by first | rfl | go_num | (congr 1; omega), by omega, Lib.hid ⟨by simpa [sumX] using hx, by simp [sumX]⟩, bl_refl _⟩
    case round =>
      obtain ⟨k, m, hk, rfl, rfl, hm, hst, hbw⟩ := hrel
      by_cases hlt : k < L.length
      · obtain ⟨g, o, rfl, hg, hc0, hc1, hc2, nv, hc3, hF⟩ := (H.out.keep hbw).at_ hlt
        obtain ⟨d, hd⟩ : ∃ d, L.getD k default = d := ⟨_, rfl⟩
        rw [hd] at hc0 hc1 hc2 hF
        have hdx := small_get Hs.out hlt hd
        have hsn := sumX_snoc hlt hd
        have hle := sumX_le L (k + 1)
        have HC := Lib.hid (szNode_any d.k d.a d.b nv d.xs m wr hF hdx hm)
        obtain ⟨hs1, hs2⟩ := hst.out
        clear hd hF
        by_cases hxx : d.xs.length ≤ m
        · have hn2 : decide (((m - d.xs.length : Nat) : Int) < 0) = false := by simp
          have HS := Lib.hid (show L.length + sumX (L.take (k + 1)) ≤ l ∧ m - d.xs.length = l - (L.length + sumX (L.take (k + 1))) by omega)
          clear hs1 hs2 hsn hle
          go_wp2_with (go_at_call 85; refine (Calls.mono (by exact HC.out) ?_); rintro e w1 ⟨⟨_, rfl⟩ | ⟨hno, rfl⟩, hb1⟩)
          all_goals first | exact absurd hxx hno | skip
          all_goals (go_wp2_with fail; go_roundw)
          case rel => exact ⟨k + 1, m - d.xs.length, by omega, by go_num, rfl, by omega, HS, bl_call hbw hb1⟩
          case measure => simp [intOf]; omega
        · have HN := Lib.hid (show ¬ tot L ≤ l by unfold tot; omega)
          clear hs1 hs2 hsn hle
          go_wp2_with (go_at_call 85; refine (Calls.mono (by exact HC.out) ?_); rintro e w1 ⟨⟨hno, rfl⟩ | ⟨_, rfl⟩, hb1⟩)
          all_goals first | exact absurd hno hxx | skip
          all_goals (go_wp2_with fail; go_ret; exact Sz_no HN.out (bl_call hbw hb1))
      · have hkl : k = L.length := by omega
        obtain ⟨hs1, hs2⟩ := hst.out
        rw [hkl, List.take_of_length_le (Nat.le_refl _)] at hs1 hs2
        have HS := Lib.hid (show tot L ≤ l from hs1)
        have HM := Lib.hid (show m = l - tot L from hs2)
        clear hs1 hs2
        go_wp2_with fail
        go_ret
        exact Sz_yes HS.out HM.out hbw
  · have HN := Lib.hid (show ¬ tot L ≤ l by unfold tot; omega)
    clear h
    go_enter Try.func56, Try.ntmps56
    go_wp2_with fail
    go_ret
    exact Sz_no HN.out (bl_refl _)
theorem szShape_any (v : Value) (L : List Nd) (l : Nat) (w : World) (h : NodesIn w v L) (hs : Small L) (hl : l ≤ 1048576) : Calls Try.prog 22 #[.agg #[v], .int .i64 l] w (Sz L l w) := by
  have hbl := bl_alloc (bl_refl w) (.cells #[v] 38)
  have hF := Lib.hid (szNodeS_any v L l _ (h.keep hbl) hs hl)
  by_cases hx : tot L ≤ l
  · have hn : decide (((l - tot L : Nat) : Int) < 0) = false := by simp
    go_enter Try.func22, Try.ntmps22
    go_wp2_with (go_at_call 56; refine (Calls.mono (by exact hF.out) ?_); rintro e w1 ⟨⟨_, rfl⟩ | ⟨hno, rfl⟩, hb1⟩)
    all_goals first | exact absurd hx hno | skip
    all_goals (go_wp2_with fail; go_ret; exact Sz_yes hx rfl (bl_call hbl hb1))
  · go_enter Try.func22, Try.ntmps22
    go_wp2_with (go_at_call 56; refine (Calls.mono (by exact hF.out) ?_); rintro e w1 ⟨⟨hno, rfl⟩ | ⟨_, rfl⟩, hb1⟩)
    all_goals first | exact absurd hno hx | skip
    all_goals (go_wp2_with fail; go_ret; exact Sz_no hx (bl_call hbl hb1))
end Go.Proofs.Ytpbccoobkmahlaa
