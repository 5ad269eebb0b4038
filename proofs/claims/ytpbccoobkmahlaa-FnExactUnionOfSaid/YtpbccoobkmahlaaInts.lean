/- Slices of whole numbers, and the marks that a law writes into a slice that it made. No conditions but bounds on lengths. -/
import Derived.Test.YtpbccoobkmahlaaSl
namespace Go.Proofs.Ytpbccoobkmahlaa
open Go.Fl Go.RowKit

/-- The slice value 'v' holds the whole numbers 'zs' in the world 'w'. -/
def IIn (w : World) (v : Value) (zs : List Int) : Prop := ∃ a cap, v = .slice a zs.length cap ∧ (zs = [] ∨ ∃ b o, a = some ⟨b, o, none⟩ ∧ ∀ i, i < zs.length → w.cell? ⟨b, o + i, none⟩ = some (.int .i64 (zs.getD i 0)))
theorem IIn.keep {w w' : World} {v : Value} {zs : List Int} (h : IIn w v zs) (hb : Below w.heap.size w w') : IIn w' v zs := by
  obtain ⟨a, cap, rfl, he | ⟨b, o, rfl, hc⟩⟩ := h
  · exact ⟨a, cap, rfl, .inl he⟩
  · exact ⟨_, cap, rfl, .inr ⟨b, o, rfl, fun i hi => (hb.cell (p := ⟨b, o + i, none⟩) (World.block_lt_of_cell? w _ (hc i hi))).trans (hc i hi)⟩⟩
theorem IIn.drewN {w : World} {v : Value} {zs : List Int} (h : IIn w v zs) (n : Nat) : IIn (w.drewN n) v zs := h
theorem IIn.kept {w w' : World} {v : Value} {zs : List Int} {row : Option Nat} (h : IIn w v zs) (hg : w.grownBy w' row) (hne : v.ownBlock = none ∨ v.ownBlock ≠ row) : IIn w' v zs := by
  obtain ⟨a, cap, rfl, he | ⟨b, o, rfl, hc⟩⟩ := h
  · exact ⟨a, cap, rfl, .inl he⟩
  · exact ⟨_, cap, rfl, .inr ⟨b, o, rfl, fun i hi => hg.cell (hc i hi) (by simpa [Value.ownBlock] using hne)⟩⟩
theorem IIn_of_row {w : World} {B n : Nat} {e : TypeId} {v : Value} {zs : List Int} (hn : n = zs.length) (h : w.ownsRow B e 1 v n (zs.map (Value.int .i64))) : IIn w v zs := by
  subst hn
  rcases h.2 with ⟨rfl, h0⟩ | ⟨g, cap, cur, rfl, hb, hg, rest⟩
  · rw [← h0]; exact ⟨none, 0, by rw [h0], .inl (List.length_eq_zero_iff.1 h0)⟩
  · refine ⟨_, cap, rfl, .inr ⟨g, 0, rfl, fun i hi => ?_⟩⟩
    rw [Nat.zero_add, h.cellAt i (by omega)]
    simp [hi]
theorem grown_set (w : World) (a : Addr) (u : Value) : w.grownBy (w.setCell a u) (some a.block) :=
  ⟨rfl, rfl, rfl, by simp [World.setCell], fun k _ hk => heap_setCell_other w a k u (fun e => hk (by rw [e]))⟩
theorem grown_drewN (w : World) (n : Nat) (row : Option Nat) : w.grownBy (w.drewN n) row := ⟨rfl, rfl, rfl, Nat.le_refl _, fun _ _ _ => rfl⟩
theorem grown_refl (w : World) (row : Option Nat) : w.grownBy w row := ⟨rfl, rfl, rfl, Nat.le_refl _, fun _ _ _ => rfl⟩
theorem grown_trans {a b c : World} {row : Option Nat} (h : a.grownBy b row) (k : b.grownBy c row) : a.grownBy c row :=
  ⟨k.os.trans h.os, k.tape.trans h.tape, k.output.trans h.output, Nat.le_trans h.size k.size, fun i hi hn => (k.block i (Nat.lt_of_lt_of_le hi h.size) hn).trans (h.block i hi hn)⟩

theorem eqInt64S_true (v u : Value) (zs : List Int) (w : World) (h : IIn w v zs) (h' : IIn w u zs) (hn : zs.length ≤ 1048576) : Calls Try.prog 37 #[v, u] w (BOut w true) := by
  obtain ⟨a, cap, rfl, he⟩ := h
  obtain ⟨a', cap', rfl, he'⟩ := h'
  have hsrc : ∀ k, k < zs.length → ∃ b o b' o', a = some ⟨b, o, none⟩ ∧ w.cell? ⟨b, o + k, none⟩ = some (.int .i64 (zs.getD k 0)) ∧ a' = some ⟨b', o', none⟩ ∧ w.cell? ⟨b', o' + k, none⟩ = some (.int .i64 (zs.getD k 0)) := by
    intro k hk
    rcases he with rfl | ⟨b, o, ha, hc⟩
    · simp at hk
    rcases he' with rfl | ⟨b', o', ha', hc'⟩
    · simp at hk
    exact ⟨b, o, b', o', ha, hc k hk, ha', hc' k hk⟩
  clear he he'
  go_enter Try.func37, Try.ntmps37
  go_wp2_with fail
  go_loopw [5] (fun i wr => ∃ k n : Nat, k ≤ zs.length ∧ i = .int .i64 k ∧ wr = w.drewN n) (fun i _ => zs.length - (intOf i).toNat)
  case atStart => exact ⟨0, 0, Nat.zero_le _, rfl, rfl⟩
  case round =>
    obtain ⟨k, n, hk, rfl, rfl⟩ := hrel
    by_cases hlt : k < zs.length
    · obtain ⟨b, o, b', o', rfl, hc, rfl, hc'⟩ := hsrc k hlt
      clear hsrc
      go_wp2_with fail
      go_region_with fail
      all_goals (go_wp2_with fail; go_roundw)
      all_goals first | exact ⟨k + 1, _, by omega, by go_num, rfl⟩ | (simp [intOf]; omega)
    · clear hsrc
      go_wp2_with fail
      go_ret
      exact ⟨rfl, _, rfl⟩
def marks (k n : Nat) : List Int := (List.range n).map fun i => ((k + i : Nat) : Int)
theorem marks_len (k n : Nat) : (marks k n).length = n := by simp [marks]
theorem marks_get (k n i : Nat) (h : i < n) : (marks k n).getD i 0 = ((k + i : Nat) : Int) := by simp [marks, h]
theorem heldInt64S_any (v : Value) (k0 n : Nat) (w : World) (h : IIn w v (marks k0 n)) (hn : k0 + n ≤ 1073741824) : Calls Try.prog 39 #[v, .int .i64 k0] w (IOut w .i64 ((k0 + n : Nat) : Int)) := by
  obtain ⟨a, cap, rfl, he⟩ := h
  have hsrc : ∀ k, k < n → ∃ b o, a = some ⟨b, o, none⟩ ∧ w.cell? ⟨b, o + k, none⟩ = some (.int .i64 ((k0 + k : Nat) : Int)) := by
    intro k hk
    rcases he with he | ⟨b, o, ha, hc⟩
    · have := congrArg List.length he
      rw [marks_len] at this
      simp at this
      omega
    · have := hc k (by rw [marks_len]; exact hk)
      rw [marks_get k0 n k hk] at this
      exact ⟨b, o, ha, this⟩
  clear he
  rw [marks_len]
  go_enter Try.func39, Try.ntmps39
  go_wp2_with fail
  go_loopw [1, 5] (fun s i wr => ∃ k m : Nat, k ≤ n ∧ i = .int .i64 k ∧ s = .int .i64 ((k0 + k : Nat) : Int) ∧ wr = w.drewN m) (fun _ i _ => n - (intOf i).toNat)
  case atStart => exact ⟨0, 0, Nat.zero_le _, rfl, rfl, rfl⟩
  case round =>
    obtain ⟨k, m, hk, rfl, rfl, rfl⟩ := hrel
    by_cases hlt : k < n
    · obtain ⟨b, o, rfl, hc⟩ := hsrc k hlt
      clear hsrc
      go_wp2_with fail
      go_roundw
      case rel => exact ⟨k + 1, _, by omega, by go_num, by go_num, rfl⟩
      case measure => simp [intOf]; omega
    · obtain rfl : k = n := by omega
      clear hsrc
      go_wp2_with fail
      go_ret
      exact ⟨rfl, _, rfl⟩
/-- The whole numbers behind k marks. -/
def rowM (zs : List Int) (k0 k : Nat) : List Value := (marks k0 k).map (Value.int .i64) ++ (zs.drop k).map (Value.int .i64)
theorem rowM_zero (zs : List Int) (k0 : Nat) : zs.map (Value.int .i64) = rowM zs k0 0 := by simp [rowM, marks]
theorem rowM_full (zs : List Int) (k0 : Nat) : rowM zs k0 zs.length = (marks k0 zs.length).map (Value.int .i64) := by simp [rowM]
theorem rowM_get (zs : List Int) (k0 k : Nat) (hk : k < zs.length) : ∃ u, (rowM zs k0 k)[k]? = some u := ⟨_, List.getElem?_eq_getElem (by simp [rowM, marks_len]; omega)⟩
theorem rowM_set (zs : List Int) (k0 k : Nat) (hk : k < zs.length) : (rowM zs k0 k).set k (.int .i64 ((k0 + k : Nat) : Int)) = rowM zs k0 (k + 1) := by
  unfold rowM
  have l : ((marks k0 k).map (Value.int .i64)).length = k := by simp [marks_len]
  rw [List.set_append_right _ _ (by omega), l, Nat.sub_self, List.drop_eq_getElem_cons hk, List.map_cons, List.set_cons_zero]
  have e : marks k0 (k + 1) = marks k0 k ++ [((k0 + k : Nat) : Int)] := by simp [marks, List.range_succ]
  rw [e, List.map_append, List.append_assoc]
  rfl
theorem markInt64S_any (v : Value) (zs : List Int) (k0 n B : Nat) (w : World) (hnz : n = zs.length) (h : w.ownsRow B 2 1 v n (zs.map (Value.int .i64))) (hn : k0 + n ≤ 1073741824) : Calls Try.prog 38 #[v, .int .i64 k0] w
    fun e w' => e = .returned (.int .i64 ((k0 + n : Nat) : Int)) ∧ w'.ownsRow B 2 1 v n ((marks k0 n).map (Value.int .i64)) ∧ w.grownBy w' v.ownBlock := by
  rcases h.2 with ⟨rfl, h0⟩ | ⟨g, cap, cur, rfl, hb, hg, rest⟩
  · subst h0
    have hm : (marks k0 0).map (Value.int .i64) = zs.map (Value.int .i64) := by rw [List.length_eq_zero_iff.1 hnz.symm]; rfl
    rw [hm]
    clear hm hnz
    go_enter Try.func38, Try.ntmps38
    go_wp2
    go_loopw [1, 5] (fun s i wr => ∃ k : Nat, i = .int .i64 k ∧ wr = w ∧ s = .int .i64 k0) (fun _ _ _ => 0)
    case atStart => exact ⟨0, rfl, rfl, rfl⟩
    case round =>
      obtain ⟨k, rfl, rfl, rfl⟩ := hrel
      go_wp2
      go_ret
      exact ⟨rfl, h, grown_refl _ _⟩
  · rw [rowM_zero zs k0] at h
    have Hf := Lib.hid (rowM_full zs k0)
    have Hs := Lib.hid (fun k => rowM_set zs k0 k)
    have Hg := Lib.hid (fun k => rowM_get zs k0 k)
    have Hn := Lib.hid hnz
    clear hg rest hb hnz
    go_enter Try.func38, Try.ntmps38
    go_wp2
    go_loopw [1, 5] (fun s i wr => ∃ k : Nat, k ≤ n ∧ i = .int .i64 k ∧ s = .int .i64 ((k0 + k : Nat) : Int) ∧ wr.ownsRow B 2 1 (.slice (some ⟨g, 0, none⟩) n cap) n (rowM zs k0 k) ∧ w.grownBy wr (some g)) (fun _ i _ => n - (intOf i).toNat)
    case atStart => exact ⟨0, Nat.zero_le _, rfl, rfl, h, grown_refl _ _⟩
    case round =>
      obtain ⟨k, hk, rfl, rfl, hown, hgr⟩ := hrel
      by_cases hlt : k < n
      · obtain ⟨u, hu⟩ := Hg.out k (by rw [← Hn.out]; exact hlt)
        have hd := (hown.cellAt k (by omega)).trans hu
        have hf := hown.frozenAt k
        have hst := hown.stored k (.int .i64 ((k0 + k : Nat) : Int))
        rw [Hs.out k (by rw [← Hn.out]; exact hlt)] at hst
        go_wp2
        go_roundw
        case rel => exact ⟨k + 1, by omega, by go_num, by go_num, hst.1, grown_trans hgr (grown_set _ _ _)⟩
        case measure => simp [intOf]; omega
      · obtain rfl : k = n := by omega
        have hown' := hown
        rw [Hn.out, Hf.out, ← Hn.out] at hown'
        go_wp2
        go_ret
        exact ⟨rfl, hown', hgr⟩
end Go.Proofs.Ytpbccoobkmahlaa
