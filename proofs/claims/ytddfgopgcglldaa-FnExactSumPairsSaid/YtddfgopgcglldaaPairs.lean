/- The sum of the sums of both halves. No conditions but that bits fit their kind. -/
import Derived.Test.YtddfgopgcglldaaSl
import Derived.BigRegion
namespace Go.Proofs.Ytddfgopgcglldaa
open Go.Fl Go.RowKit

theorem row_cells {w : World} {B g n cap : Nat} {e : TypeId} {xs : List Nat} (hn : n = xs.length) (h : w.ownsRow B e 1 (.slice (some ⟨g, 0, none⟩) n cap) n (xs.map (Value.float .f32))) (i : Nat) (hi : i < n) : w.cell? ⟨g, 0 + i, none⟩ = some (.float .f32 (xs.getD i 0)) := by
  subst hn
  rw [Nat.zero_add, h.cellAt i (by omega)]
  simp [hi]
def sumPF : Nat → List Nat → Nat
  | 0, _ => 0
  | _ + 1, [] => 0
  | _ + 1, [x] => x
  | f + 1, x :: y :: xs => fop .add .f32 (sumPF f ((x :: y :: xs).take (((x :: y :: xs).length + 1) / 2))) (sumPF f ((x :: y :: xs).drop (((x :: y :: xs).length + 1) / 2)))
theorem sumPF_two (f : Nat) (xs : List Nat) (h : 2 ≤ xs.length) : sumPF (f + 1) xs = fop .add .f32 (sumPF f (xs.take ((xs.length + 1) / 2))) (sumPF f (xs.drop ((xs.length + 1) / 2))) := by
  match xs, h with
  | x :: y :: xs, _ => rfl
set_option maxHeartbeats 1000000 in
theorem sumPairs_any (f : Nat) : ∀ (xs : List Nat) (n b o cap : Nat) (w : World), n = xs.length → n < f → n ≤ cap → cap ≤ 1048576 → (∀ i, i < n → w.cell? ⟨b, o + i, none⟩ = some (.float .f32 (xs.getD i 0))) → (∀ x ∈ xs, x < 4294967296) →
    Calls Try.prog 73 #[.slice (some ⟨b, o, none⟩) n cap] w (FOut w .f32 (sumPF f xs)) := by
  induction f with
  | zero => intro xs n b o cap w _ h; omega
  | succ f ih =>
    intro xs n b o cap w hn hf hcap hc hcell hb
    have hadd := fun (W : World) (x y : Nat) => run_fopv (P := Try.prog) (op := .add) rfl 22 .f32 x y W
    have Hn := Lib.hid hn
    by_cases h0 : n = 0
    · subst h0
      have H : sumPF (f + 1) xs = 0 := by rw [List.length_eq_zero_iff.1 hn.symm]; rfl
      have H' := Lib.hid H
      clear hn H
      go_enter Try.func73, Try.ntmps73
      go_wp2_with fail
      go_ret
      exact ⟨_, 0, by rw [H'.out]; exact Is.refl (by decide), rfl, rfl⟩
    · by_cases h1 : n = 1
      · subst h1
        have hc0 := hcell 0 (by omega)
        have H : ∃ x, xs = [x] := List.length_eq_one_iff.1 hn.symm
        obtain ⟨x, rfl⟩ := H
        simp at hc0
        have hx : x < 4294967296 := hb x (by simp)
        clear hn hcell hb
        go_enter Try.func73, Try.ntmps73
        go_wp2_with fail
        go_ret
        exact ⟨_, 0, Is.refl hx, rfl, rfl⟩
      · have H2 := Lib.hid (sumPF_two f xs (by omega))
        have b0 : ((n : Int) == 0) = false := beq_eq_false_iff_ne.2 (by omega)
        have b1 : ((n : Int) == 1) = false := beq_eq_false_iff_ne.2 (by omega)
        have hA := Lib.hid (fun (W : World) (hW : ∀ a, W.cell? a = w.cell? a) => ih (xs.take ((n + 1) / 2)) ((n + 1) / 2) b o cap W (by simp; omega) (by omega) (by omega) hc
          (fun i hi => by rw [hW, hcell i (by omega)]; simp [List.getD, hi]) (fun x hx => hb x (List.mem_of_mem_take hx)))
        have hB := Lib.hid (fun (W : World) (hW : ∀ a, W.cell? a = w.cell? a) => ih (xs.drop ((n + 1) / 2)) (n - (n + 1) / 2) b (o + (n + 1) / 2) (cap - (n + 1) / 2) W (by simp; omega) (by omega) (by omega) (by omega)
          (fun i hi => by rw [hW, Nat.add_assoc, hcell _ (by omega)]; simp [List.getD, List.getElem?_drop]) (fun x hx => hb x (List.mem_of_mem_drop hx)))
        clear hn hcell ih hb
        go_enter Try.func73, Try.ntmps73
        go_wp2_with fail
        go_region_with (first | ((go_at_call 73); ((with_reducible refine (hA.out _ ?_).mono ?_); (intro _; rfl); rintro e w' ⟨r, n, hr, rfl, rfl⟩)) | ((go_at_call 73); ((with_reducible refine (hB.out _ ?_).mono ?_); (intro _; rfl); rintro e w' ⟨r, n, hr, rfl, rfl⟩)))
        all_goals (go_wp2_with fail; go_ret; refine ⟨_, _, ?_, rfl, rfl⟩; rw [H2.out, ← Hn.out]; exact (fv_is _ _ _ _ _).op' (by assumption) (by assumption))
set_option maxHeartbeats 1000000 in
theorem l01SumPairs_any (f : Nat) : ∀ (xs : List Nat) (n b o cap : Nat) (w : World), n = xs.length → n < f → n ≤ cap → cap ≤ 1048576 → (∀ i, i < n → w.cell? ⟨b, o + i, none⟩ = some (.float .f32 (xs.getD i 0))) → (∀ x ∈ xs, x < 4294967296) →
    Calls Try.prog 72 #[.slice (some ⟨b, o, none⟩) n cap] w (FOut w .f32 (sumPF f xs)) := by
  induction f with
  | zero => intro xs n b o cap w _ h; omega
  | succ f ih =>
    intro xs n b o cap w hn hf hcap hc hcell hb
    have hadd := fun (W : World) (x y : Nat) => run_fopv (P := Try.prog) (op := .add) rfl 22 .f32 x y W
    have Hn := Lib.hid hn
    by_cases h0 : n = 0
    · subst h0
      have H : sumPF (f + 1) xs = 0 := by rw [List.length_eq_zero_iff.1 hn.symm]; rfl
      have H' := Lib.hid H
      clear hn H
      go_enter Try.func72, Try.ntmps72
      go_wp2_with fail
      go_ret
      exact ⟨_, 0, by rw [H'.out]; exact Is.refl (by decide), rfl, rfl⟩
    · by_cases h1 : n = 1
      · subst h1
        have hc0 := hcell 0 (by omega)
        have H : ∃ x, xs = [x] := List.length_eq_one_iff.1 hn.symm
        obtain ⟨x, rfl⟩ := H
        simp at hc0
        have hx : x < 4294967296 := hb x (by simp)
        clear hn hcell hb
        go_enter Try.func72, Try.ntmps72
        go_wp2_with fail
        go_ret
        exact ⟨_, 0, Is.refl hx, rfl, rfl⟩
      · have H2 := Lib.hid (sumPF_two f xs (by omega))
        have b0 : ((n : Int) == 0) = false := beq_eq_false_iff_ne.2 (by omega)
        have b1 : ((n : Int) == 1) = false := beq_eq_false_iff_ne.2 (by omega)
        have hA := Lib.hid (fun (W : World) (hW : ∀ a, W.cell? a = w.cell? a) => ih (xs.take ((n + 1) / 2)) ((n + 1) / 2) b o cap W (by simp; omega) (by omega) (by omega) hc
          (fun i hi => by rw [hW, hcell i (by omega)]; simp [List.getD, hi]) (fun x hx => hb x (List.mem_of_mem_take hx)))
        have hB := Lib.hid (fun (W : World) (hW : ∀ a, W.cell? a = w.cell? a) => ih (xs.drop ((n + 1) / 2)) (n - (n + 1) / 2) b (o + (n + 1) / 2) (cap - (n + 1) / 2) W (by simp; omega) (by omega) (by omega) (by omega)
          (fun i hi => by rw [hW, Nat.add_assoc, hcell _ (by omega)]; simp [List.getD, List.getElem?_drop]) (fun x hx => hb x (List.mem_of_mem_drop hx)))
        clear hn hcell ih hb
        go_enter Try.func72, Try.ntmps72
        go_wp2_with fail
        go_region_with (first | ((go_at_call 72); ((with_reducible refine (hA.out _ ?_).mono ?_); (intro _; rfl); rintro e w' ⟨r, n, hr, rfl, rfl⟩)) | ((go_at_call 72); ((with_reducible refine (hB.out _ ?_).mono ?_); (intro _; rfl); rintro e w' ⟨r, n, hr, rfl, rfl⟩)))
        all_goals (go_wp2_with fail; go_ret; refine ⟨_, _, ?_, rfl, rfl⟩; rw [H2.out, ← Hn.out]; exact (fv_is _ _ _ _ _).op' (by assumption) (by assumption))
def pairsO (xs : List Nat) : Option Nat := if xs.length ≤ 256 then some (sumPF (xs.length + 1) xs) else none
theorem SumPairs_any (b o cap n : Nat) (xs : List Nat) (w : World) (hn : n = xs.length) (hcap : n ≤ cap) (hc : cap ≤ 1048576) (hcell : ∀ i, i < n → w.cell? ⟨b, o + i, none⟩ = some (.float .f32 (xs.getD i 0))) (hb : ∀ x ∈ xs, x < 4294967296) : Calls Try.prog 40 #[.slice (some ⟨b, o, none⟩) n cap] w (FT w (pairsO xs)) := by
  have Hx := Lib.hid (sumPairs_any (n + 1) xs n b o cap w hn (by omega) hcap hc hcell hb)
  by_cases hf : n ≤ 256
  · have hd : decide ((n : Int) ≤ 256) = true := by simp; omega
    have H := Lib.hid (show pairsO xs = some (sumPF (n + 1) xs) by unfold pairsO; rw [← hn]; exact if_pos hf)
    clear hn hcell hb
    go_enter Try.func40, Try.ntmps40
    go_wp2_with (first | (go_at_call 65; go_in) | (go_at_call 73; refine Hx.out.mono ?_; rintro e w' ⟨r, m, hr, rfl, rfl⟩))
    go_ret2
    exact FT_some H.out hr
  · have hd : decide ((n : Int) ≤ 256) = false := by simp; omega
    have H := Lib.hid (show pairsO xs = none by unfold pairsO; rw [← hn]; exact if_neg hf)
    clear hn hcell hb
    go_enter Try.func40, Try.ntmps40
    go_wp2_with (first | (go_at_call 65; go_in))
    go_ret2
    exact FT_none (n := 0) H.out
theorem spec_SumPairs_any (b o cap n : Nat) (xs : List Nat) (w : World) (hn : n = xs.length) (hcap : n ≤ cap) (hc : cap ≤ 1048576) (hcell : ∀ i, i < n → w.cell? ⟨b, o + i, none⟩ = some (.float .f32 (xs.getD i 0))) (hb : ∀ x ∈ xs, x < 4294967296) : Calls Try.prog 39 #[.slice (some ⟨b, o, none⟩) n cap] w (FT w (pairsO xs)) := by
  have Hx := Lib.hid (l01SumPairs_any (n + 1) xs n b o cap w hn (by omega) hcap hc hcell hb)
  by_cases hf : n ≤ 256
  · have hd : decide ((n : Int) ≤ 256) = true := by simp; omega
    have H := Lib.hid (show pairsO xs = some (sumPF (n + 1) xs) by unfold pairsO; rw [← hn]; exact if_pos hf)
    clear hn hcell hb
    go_enter Try.func39, Try.ntmps39
    go_wp2_with (first | (go_at_call 63; go_in) | (go_at_call 72; refine Hx.out.mono ?_; rintro e w' ⟨r, m, hr, rfl, rfl⟩))
    go_ret2
    exact FT_some H.out hr
  · have hd : decide ((n : Int) ≤ 256) = false := by simp; omega
    have H := Lib.hid (show pairsO xs = none by unfold pairsO; rw [← hn]; exact if_neg hf)
    clear hn hcell hb
    go_enter Try.func39, Try.ntmps39
    go_wp2_with (first | (go_at_call 63; go_in))
    go_ret2
    exact FT_none (n := 0) H.out
end Go.Proofs.Ytddfgopgcglldaa
