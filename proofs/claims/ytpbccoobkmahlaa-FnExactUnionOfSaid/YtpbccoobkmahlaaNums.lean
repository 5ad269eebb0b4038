/- The numbers of a node, as the program and the reference look at them. No conditions but bounds on lengths. -/
import Derived.Test.YtpbccoobkmahlaaRule
import Derived.Test.YtpbccoobkmahlaaKeep
namespace Go.Proofs.Ytpbccoobkmahlaa
open Go.Fl Go.RowKit

theorem sgn1_any (x s g : Nat) (w : World) (hc : w.cell? ⟨g, 3, none⟩ = some (.int .i64 (s : Nat))) : Calls Try.prog 91 #[.float .f32 x, .pointer (some ⟨g, 0, none⟩)] w fun e w' => e = .returned (.bool (sgBad s x)) ∧ w' = w := by
  have HR := Lib.hid (show sgBad s x = (((s : Int) == 1) && (FloatKind.f32.format.order x 0 == some .lt) || (((s : Int) == 2) && (FloatKind.f32.format.order x 0 == some .lt || FloatKind.f32.format.order x 0 == some .eq))) from rfl)
  cases h1 : ((s : Int) == 1)
  · rw [h1] at HR
    cases h2 : ((s : Int) == 2)
    · rw [h2] at HR
      go_enter Try.func91, Try.ntmps91
      go_wp2
      go_ret
      exact ⟨ret_bool (HR.out.trans (by simp)).symm, rfl⟩
    · rw [h2] at HR
      go_enter Try.func91, Try.ntmps91
      go_wp2
      go_ret
      exact ⟨ret_bool (HR.out.trans (by simp)).symm, rfl⟩
  · rw [h1] at HR
    cases h3 : (FloatKind.f32.format.order x 0 == some .lt)
    · rw [h3] at HR
      have h2 : ((s : Int) == 2) = false := by simp at h1 ⊢; omega
      rw [h2] at HR
      go_enter Try.func91, Try.ntmps91
      go_wp2
      go_ret
      exact ⟨ret_bool (HR.out.trans (by simp)).symm, rfl⟩
    · rw [h3] at HR
      go_enter Try.func91, Try.ntmps91
      go_wp2
      go_ret
      exact ⟨ret_bool (HR.out.trans (by simp)).symm, rfl⟩
def noBad (s : Nat) (xs : List Nat) (k : Nat) : Bool := (xs.take k).all fun x => !sgBad s x
theorem noBad_yes {s : Nat} {xs : List Nat} {k : Nat} (hk : k < xs.length) (h : noBad s xs k = true) (hx : sgBad s (xs.getD k 0) = false) : noBad s xs (k + 1) = true := by
  unfold noBad at *; rw [take_snoc xs k hk, List.all_append, h]; simpa [hk] using hx
theorem noBad_no {s : Nat} {xs : List Nat} {k : Nat} (hk : k < xs.length) (hx : sgBad s (xs.getD k 0) = true) : noBad s xs xs.length = false := by
  unfold noBad
  rw [List.take_length, List.all_eq_false]
  exact ⟨xs[k], List.getElem_mem hk, by simpa [hk] using hx⟩
theorem IndexFuncS_any (v : Value) (xs : List Nat) (s g : Nat) (w : World) (h : FIn w v xs) (hc : w.cell? ⟨g, 3, none⟩ = some (.int .i64 (s : Nat))) (hn : xs.length ≤ 1048576) : Calls Try.prog 106 #[v, .func (.func 91) #[] #[.pointer (some ⟨g, 0, none⟩)]] w
    fun e w' => ∃ (i : Int), e = .returned (.int .i64 i) ∧ decide (0 ≤ i) = !(noBad s xs xs.length) ∧ w' = w := by
  obtain ⟨a, cap, rfl, he⟩ := h
  have hsrc : ∀ k, k < xs.length → ∃ b o, a = some ⟨b, o, none⟩ ∧ w.cell? ⟨b, o + k, none⟩ = some (.float .f32 (xs.getD k 0)) := by
    intro k hk
    rcases he with rfl | ⟨b, o, ha, hc⟩
    · simp at hk
    · exact ⟨b, o, ha, hc k hk⟩
  have HC := Lib.hid (fun x => sgn1_any x s g w hc)
  clear he hc
  go_enter Try.func106, Try.ntmps106
  go_wp2_with fail
  go_loopw [8] (fun i wr => ∃ k : Nat, k ≤ xs.length ∧ i = .int .i64 k ∧ wr = w ∧ RowKit.Hid (noBad s xs k = true)) (fun i _ => xs.length - (intOf i).toNat)
  case atStart => exact ⟨0, Nat.zero_le _, rfl, rfl, Lib.hid rfl⟩
  case round =>
    obtain ⟨k, hk, rfl, rfl, hal⟩ := hrel
    by_cases hlt : k < xs.length
    · obtain ⟨b, o, rfl, hcell⟩ := hsrc k hlt
      clear hsrc
      cases hx : sgBad s (xs.getD k 0)
      · have H := Lib.hid (noBad_yes hlt hal.out hx)
        generalize xs.getD k 0 = x at hcell hx
        go_wp2_with (go_at_call 91; refine (Calls.mono (by exact HC.out _) ?_); rintro e w' ⟨rfl, rfl⟩)
        go_roundw
        case rel => exact ⟨k + 1, by omega, by go_num, trivial, H⟩
        case measure => simp [intOf]; omega
      · have H := Lib.hid (noBad_no hlt hx)
        generalize xs.getD k 0 = x at hcell hx
        go_wp2_with (go_at_call 91; refine (Calls.mono (by exact HC.out _) ?_); rintro e w' ⟨rfl, rfl⟩)
        go_ret
        exact ⟨_, rfl, by rw [H.out]; simp, rfl⟩
    · obtain rfl : k = xs.length := by omega
      clear hsrc
      go_wp2_with fail
      go_ret
      exact ⟨_, rfl, by rw [hal.out]; simp, rfl⟩
theorem ContainsFuncS_any (v : Value) (xs : List Nat) (s g : Nat) (w : World) (h : FIn w v xs) (hc : w.cell? ⟨g, 3, none⟩ = some (.int .i64 (s : Nat))) (hn : xs.length ≤ 1048576) : Calls Try.prog 90 #[v, .func (.func 91) #[] #[.pointer (some ⟨g, 0, none⟩)]] w fun e w' => e = .returned (.bool (!(noBad s xs xs.length))) ∧ w' = w := by
  have HC := Lib.hid (IndexFuncS_any v xs s g w h hc hn)
  clear hc
  go_enter Try.func90, Try.ntmps90
  go_wp2_with (go_at_call 106; refine (Calls.mono (by exact HC.out) ?_); rintro e w' ⟨i, rfl, hi, rfl⟩)
  go_ret
  exact ⟨rfl, rfl⟩
theorem nums_len {k : Int} {xs : List Nat} (h : ¬ xs.length = cntK k) : numsB k xs = false := by simp [numsB, h]
theorem nums_fin {k : Int} {xs : List Nat} (h : allFin xs xs.length = false) : numsB k xs = false := by
  have : xs.all (numB (sgK k)) = false := by
    unfold allFin at h
    rw [List.take_length, List.all_eq_false] at h
    obtain ⟨x, hx, hf⟩ := h
    rw [List.all_eq_false]
    exact ⟨x, hx, by simp [numB] at hf ⊢; simp [hf]⟩
  simp [numsB, this]
theorem nums_is {k : Int} {xs : List Nat} (hl : xs.length = cntK k) (h : allFin xs xs.length = true) : numsB k xs = noBad (sgK k) xs xs.length := by
  unfold allFin at h
  rw [List.take_length, List.all_eq_true] at h
  unfold numsB noBad
  rw [List.take_length, decide_eq_true hl, Bool.true_and]
  have : ∀ ys : List Nat, (∀ y ∈ ys, isFin y = true) → ys.all (numB (sgK k)) = ys.all fun x => !sgBad (sgK k) x := by
    intro ys
    induction ys with
    | nil => intro _; rfl
    | cons y r ih =>
      intro hy
      rw [List.all_cons, List.all_cons, ih (fun z hz => hy z (List.mem_cons_of_mem _ hz))]
      simp [numB, hy y List.mem_cons_self]
  exact this xs h
theorem box4 (w : World) (a b c d : Value) (t : TypeId) : (w.alloc (.cells #[a, b, c, d] t)).cell? ⟨w.heap.size, 3, none⟩ = some d :=
  (cell_of_row _ _ 3 #[a, b, c, d] t (0, 0) (heap_alloc_new w _)).trans rfl
set_option maxHeartbeats 2000000 in
theorem numbersOk_any (k : Int) (v : Value) (xs : List Nat) (w : World) (h : FIn w v xs) (hn : xs.length ≤ 1048576) : Calls Try.prog 61 #[.int .i64 k, v] w (BB w (okK k && numsB k xs)) := by
  obtain ⟨av, cv, rfl, _⟩ := id h
  have H := Lib.hid h
  clear h
  cases ho : okK k
  · go_enter Try.func61, Try.ntmps61
    go_wp2_with (go_at_call 73; refine (ruleOf_any k _).mono ?_; rintro e w1 ⟨rfl, hb1⟩; unfold ruleV)
    go_ret
    exact ⟨ret_bool rfl, bl_alloc hb1 _⟩
  · by_cases hl : xs.length = cntK k
    · have hl' : ((xs.length : Int) != (cntK k : Nat)) = false := by simp; omega
      have HL := Lib.hid hl
      clear hl
      cases hf : allFin xs xs.length
      · have HN := Lib.hid (nums_fin (k := k) hf)
        have HC := Lib.hid (fun W hb => finite_any _ xs W (H.out.keep hb) hn)
        rw [hf] at HC
        clear hf
        go_enter Try.func61, Try.ntmps61
        go_wp2_with (first | (go_at_call 73; refine (ruleOf_any k _).mono ?_; rintro e w1 ⟨rfl, hb1⟩; unfold ruleV; have hb2 := bl_alloc hb1 (.cells #[.int .i64 (cntK k : Nat), .int .i64 (kidsK k : Nat), .bool (axK k), .int .i64 (sgK k : Nat)] 93)) | (go_at_call 89; refine (Calls.mono (by exact HC.out _ hb2) ?_); rintro e w2 ⟨rfl, n, rfl⟩))
        go_ret
        exact ⟨ret_bool (by rw [HN.out]; rfl), bl_drewN hb2 _⟩
      · have HN := Lib.hid (nums_is HL.out hf)
        have HC := Lib.hid (fun W hb => finite_any _ xs W (H.out.keep hb) hn)
        rw [hf] at HC
        clear hf
        go_enter Try.func61, Try.ntmps61
        go_wp2_with (first | (go_at_call 73; refine (ruleOf_any k _).mono ?_; rintro e w1 ⟨rfl, hb1⟩; unfold ruleV; have hb2 := bl_alloc hb1 (.cells #[.int .i64 (cntK k : Nat), .int .i64 (kidsK k : Nat), .bool (axK k), .int .i64 (sgK k : Nat)] 93); have hc3 := box4 w1 (.int .i64 (cntK k : Nat)) (.int .i64 (kidsK k : Nat)) (.bool (axK k)) (.int .i64 (sgK k : Nat)) 93) | (go_at_call 89; refine (Calls.mono (by exact HC.out _ hb2) ?_); rintro e w2 ⟨rfl, n, rfl⟩) | (go_at_call 90; refine (ContainsFuncS_any _ xs (sgK k) w1.heap.size _ ((H.out.keep hb2).drewN n) hc3 hn).mono ?_; rintro e w2 ⟨rfl, rfl⟩))
        go_ret
        exact ⟨ret_bool (by rw [HN.out]; simp), bl_drewN hb2 _⟩
    · have hl' : ((xs.length : Int) != (cntK k : Nat)) = true := by simp; omega
      have HN := Lib.hid (nums_len hl)
      clear hl
      go_enter Try.func61, Try.ntmps61
      go_wp2_with (go_at_call 73; refine (ruleOf_any k _).mono ?_; rintro e w1 ⟨rfl, hb1⟩; unfold ruleV)
      go_ret
      exact ⟨ret_bool (by rw [HN.out]; rfl), bl_alloc hb1 _⟩
end Go.Proofs.Ytpbccoobkmahlaa
