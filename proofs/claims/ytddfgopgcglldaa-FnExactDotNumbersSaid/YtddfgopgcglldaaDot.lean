/- Sums of products of two lists of numbers. No conditions but that bits fit their kind. -/
import Derived.Test.YtddfgopgcglldaaSl
import Derived.BigRegion
namespace Go.Proofs.Ytddfgopgcglldaa
open Go.Fl Go.RowKit

def dotF : List Nat → List Nat → Nat → Nat
  | x :: xs, y :: ys, r => dotF xs ys (fop .add .f32 r (fop .mul .f32 x y))
  | _, _, r => r
def dotTo (xs ys : List Nat) (k : Nat) : Nat := dotF (xs.take k) (ys.take k) 0
theorem dotF_snoc (x y : Nat) : ∀ (xs ys : List Nat) (r : Nat), xs.length = ys.length → dotF (xs ++ [x]) (ys ++ [y]) r = fop .add .f32 (dotF xs ys r) (fop .mul .f32 x y)
  | [], [], _, _ => rfl
  | _ :: xs, _ :: ys, r, h => dotF_snoc x y xs ys _ (by simpa using h)
theorem dot_is {xs ys : List Nat} {k r p q : Nat} (hx : k < xs.length) (hy : k < ys.length) (hr : Is .f32 r (dotTo xs ys k)) (hp : Is .f32 p (fop .mul .f32 xs[k] ys[k])) (hq : Is .f32 q (fop .add .f32 r p)) : Is .f32 q (dotTo xs ys (k + 1)) := by
  unfold dotTo at *
  rw [take_snoc xs k hx, take_snoc ys k hy, dotF_snoc _ _ _ _ _ (by simp; omega)]
  exact hq.op hr.cn hp.cn
set_option maxHeartbeats 1000000 in
theorem l01Dot_any (v u : Value) (xs ys : List Nat) (w : World) (h : FIn w v xs) (h' : FIn w u ys) (hl : xs.length = ys.length) (hn : xs.length ≤ 1048576) : Calls Try.prog 66 #[v, u] w (FOut w .f32 (dotTo xs ys xs.length)) := by
  have hmul := fun (W : World) (x y : Nat) => run_fopv (P := Try.prog) (op := .mul) rfl 22 .f32 x y W
  have hadd := fun (W : World) (x y : Nat) => run_fopv (P := Try.prog) (op := .add) rfl 22 .f32 x y W
  obtain ⟨a, cap, rfl, he⟩ := h
  obtain ⟨a', cap', rfl, he'⟩ := h'
  have hsrc : ∀ k, k < xs.length → ∃ b o b' o', a = some ⟨b, o, none⟩ ∧ w.cell? ⟨b, o + k, none⟩ = some (.float .f32 (xs.getD k 0)) ∧ a' = some ⟨b', o', none⟩ ∧ w.cell? ⟨b', o' + k, none⟩ = some (.float .f32 (ys.getD k 0)) := by
    intro k hk
    rcases he with rfl | ⟨b, o, ha, hc⟩
    · simp at hk
    rcases he' with rfl | ⟨b', o', ha', hc'⟩
    · simp at hl; rw [hl] at hk; simp at hk
    exact ⟨b, o, b', o', ha, hc k hk, ha', hc' k (by omega)⟩
  clear he he'
  have Hl := Lib.hid hl
  have hn' : ys.length ≤ 1048576 := by omega
  clear hl
  go_enter Try.func66, Try.ntmps66
  go_wp2
  go_loopw [5, 6] (fun s i wr => ∃ k r n : Nat, k ≤ xs.length ∧ k ≤ ys.length ∧ i = .int .i64 k ∧ wr = w.drewN n ∧ s = .float .f32 r ∧ Is .f32 r (dotTo xs ys k)) (fun _ i _ => xs.length - (intOf i).toNat)
  case atStart => exact ⟨0, 0, 0, Nat.zero_le _, Nat.zero_le _, rfl, rfl, rfl, Is.refl (by decide)⟩
  case round =>
    obtain ⟨k, r, n, hk, hk', rfl, rfl, rfl, hr⟩ := hrel
    by_cases hlt : k < xs.length
    · obtain ⟨b, o, b', o', rfl, hc, rfl, hc'⟩ := hsrc k hlt
      have hlt' : k < ys.length := by have := Hl.out; omega
      clear hsrc
      go_wp2_with fail
      go_region
      go_wp2_with fail
      go_roundw
      case rel => exact ⟨k + 1, _, _, by omega, by omega, by go_num, rfl, rfl, dot_is hlt hlt' hr (fv_is _ _ _ _ _) (fv_is _ _ _ _ _)⟩
      case measure => simp [intOf]; omega
    · clear hsrc
      have e := Lib.hid (show k = xs.length by omega)
      go_wp2
      go_ret
      exact ⟨_, _, e.out ▸ hr, rfl, rfl⟩
set_option maxHeartbeats 1000000 in
theorem dot_any (v u : Value) (xs ys : List Nat) (w : World) (h : FIn w v xs) (h' : FIn w u ys) (hl : xs.length = ys.length) (hn : xs.length ≤ 1048576) : Calls Try.prog 67 #[v, u] w (FOut w .f32 (dotTo xs ys xs.length)) := by
  have hmul := fun (W : World) (x y : Nat) => run_fopv (P := Try.prog) (op := .mul) rfl 22 .f32 x y W
  have hadd := fun (W : World) (x y : Nat) => run_fopv (P := Try.prog) (op := .add) rfl 22 .f32 x y W
  obtain ⟨a, cap, rfl, he⟩ := h
  obtain ⟨a', cap', rfl, he'⟩ := h'
  have hsrc : ∀ k, k < xs.length → ∃ b o b' o', a = some ⟨b, o, none⟩ ∧ w.cell? ⟨b, o + k, none⟩ = some (.float .f32 (xs.getD k 0)) ∧ a' = some ⟨b', o', none⟩ ∧ w.cell? ⟨b', o' + k, none⟩ = some (.float .f32 (ys.getD k 0)) := by
    intro k hk
    rcases he with rfl | ⟨b, o, ha, hc⟩
    · simp at hk
    rcases he' with rfl | ⟨b', o', ha', hc'⟩
    · simp at hl; rw [hl] at hk; simp at hk
    exact ⟨b, o, b', o', ha, hc k hk, ha', hc' k (by omega)⟩
  clear he he'
  have Hl := Lib.hid hl
  have hn' : ys.length ≤ 1048576 := by omega
  clear hl
  go_enter Try.func67, Try.ntmps67
  go_wp2
  go_loopw [5, 10] (fun s i wr => ∃ k r n : Nat, k ≤ xs.length ∧ k ≤ ys.length ∧ i = .int .i64 k ∧ wr = w.drewN n ∧ s = .float .f32 r ∧ Is .f32 r (dotTo xs ys k)) (fun _ i _ => xs.length - (intOf i).toNat)
  case atStart => exact ⟨0, 0, 0, Nat.zero_le _, Nat.zero_le _, rfl, rfl, rfl, Is.refl (by decide)⟩
  case round =>
    obtain ⟨k, r, n, hk, hk', rfl, rfl, rfl, hr⟩ := hrel
    by_cases hlt : k < xs.length
    · obtain ⟨b, o, b', o', rfl, hc, rfl, hc'⟩ := hsrc k hlt
      have hlt' : k < ys.length := by have := Hl.out; omega
      clear hsrc
      go_wp2_with fail
      go_roundw
      case rel => exact ⟨k + 1, _, _, by omega, by omega, by go_num, rfl, rfl, dot_is hlt hlt' hr (fv_is _ _ _ _ _) (fv_is _ _ _ _ _)⟩
      case measure => simp [intOf]; omega
    · clear hsrc
      have e := Lib.hid (show k = xs.length by omega)
      go_wp2
      go_ret
      exact ⟨_, _, e.out ▸ hr, rfl, rfl⟩
def dotO (xs ys : List Nat) : Option Nat := if xs.length ≤ 256 ∧ xs.length = ys.length then some (dotTo xs ys xs.length) else none
theorem DotNumbers_any (v u : Value) (xs ys : List Nat) (w : World) (h : FIn w v xs) (h' : FIn w u ys) (hn : xs.length ≤ 1048576) : Calls Try.prog 34 #[v, u] w (FT w (dotO xs ys)) := by
  have g := h
  have g' := h'
  obtain ⟨a, cap, rfl, _⟩ := g
  obtain ⟨a', cap', rfl, _⟩ := g'
  by_cases hf : xs.length ≤ 256
  · have hd : decide ((xs.length : Int) ≤ 256) = true := by simp; omega
    by_cases hl : xs.length = ys.length
    · have H := Lib.hid (show dotO xs ys = some (dotTo xs ys xs.length) from if_pos ⟨hf, hl⟩)
      have Hl := Lib.hid hl
      have hne : ((xs.length : Int) != ys.length) = false := by simp [hl]
      clear hl
      go_enter Try.func34, Try.ntmps34
      go_wp2_with (first | (go_at_call 65; go_in) | (go_at_call 67; refine (dot_any _ _ _ _ _ h h' Hl.out hn).mono ?_; rintro e w' ⟨r, n, hr, rfl, rfl⟩))
      go_ret2
      exact FT_some H.out hr
    · have H := Lib.hid (show dotO xs ys = none from if_neg (by omega))
      have hne : ((xs.length : Int) != ys.length) = true := by simp; omega
      go_enter Try.func34, Try.ntmps34
      go_wp2_with (first | (go_at_call 65; go_in) | (go_at_call 67; refine (dot_any _ _ _ _ _ h h' (by first | assumption | omega) hn).mono ?_; rintro e w' ⟨r, n, hr, rfl, rfl⟩))
      go_ret2
      exact FT_none (n := 0) H.out
  · have hd : decide ((xs.length : Int) ≤ 256) = false := by simp; omega
    have H := Lib.hid (show dotO xs ys = none from if_neg (by omega))
    go_enter Try.func34, Try.ntmps34
    go_wp2_with (first | (go_at_call 65; go_in) | (go_at_call 67; refine (dot_any _ _ _ _ _ h h' (by first | assumption | omega) hn).mono ?_; rintro e w' ⟨r, n, hr, rfl, rfl⟩))
    go_ret2
    exact FT_none (n := 0) H.out
theorem spec_DotNumbers_any (v u : Value) (xs ys : List Nat) (w : World) (h : FIn w v xs) (h' : FIn w u ys) (hn : xs.length ≤ 1048576) : Calls Try.prog 33 #[v, u] w (FT w (dotO xs ys)) := by
  have g := h
  have g' := h'
  obtain ⟨a, cap, rfl, _⟩ := g
  obtain ⟨a', cap', rfl, _⟩ := g'
  by_cases hf : xs.length ≤ 256
  · have hd : decide ((xs.length : Int) ≤ 256) = true := by simp; omega
    by_cases hl : xs.length = ys.length
    · have H := Lib.hid (show dotO xs ys = some (dotTo xs ys xs.length) from if_pos ⟨hf, hl⟩)
      have Hl := Lib.hid hl
      have hne : ((xs.length : Int) != ys.length) = false := by simp [hl]
      clear hl
      go_enter Try.func33, Try.ntmps33
      go_wp2_with (first | (go_at_call 63; go_in) | (go_at_call 66; refine (l01Dot_any _ _ _ _ _ h h' Hl.out hn).mono ?_; rintro e w' ⟨r, n, hr, rfl, rfl⟩))
      go_ret2
      exact FT_some H.out hr
    · have H := Lib.hid (show dotO xs ys = none from if_neg (by omega))
      have hne : ((xs.length : Int) != ys.length) = true := by simp; omega
      go_enter Try.func33, Try.ntmps33
      go_wp2_with (first | (go_at_call 63; go_in) | (go_at_call 66; refine (l01Dot_any _ _ _ _ _ h h' (by first | assumption | omega) hn).mono ?_; rintro e w' ⟨r, n, hr, rfl, rfl⟩))
      go_ret2
      exact FT_none (n := 0) H.out
  · have hd : decide ((xs.length : Int) ≤ 256) = false := by simp; omega
    have H := Lib.hid (show dotO xs ys = none from if_neg (by omega))
    go_enter Try.func33, Try.ntmps33
    go_wp2_with (first | (go_at_call 63; go_in) | (go_at_call 66; refine (l01Dot_any _ _ _ _ _ h h' (by first | assumption | omega) hn).mono ?_; rintro e w' ⟨r, n, hr, rfl, rfl⟩))
    go_ret2
    exact FT_none (n := 0) H.out
end Go.Proofs.Ytddfgopgcglldaa
