/- The marks in a slice of numbers. No conditions but bounds on lengths. -/
import Derived.Test.YtpbccoobkmahlaaInts
namespace Go.Proofs.Ytpbccoobkmahlaa
open Go.Fl Go.RowKit

def fmarks (k n : Nat) : List Nat := (List.range n).map fun i => FloatKind.f32.nearest ((k + i : Nat) : Int)
theorem fmarks_len (k n : Nat) : (fmarks k n).length = n := by simp [fmarks]
/-- The numbers behind k marks. -/
def rowMF (zs : List Nat) (k0 k : Nat) : List Value := (fmarks k0 k).map (Value.float .f32) ++ (zs.drop k).map (Value.float .f32)
theorem rowMF_zero (zs : List Nat) (k0 : Nat) : zs.map (Value.float .f32) = rowMF zs k0 0 := by simp [rowMF, fmarks]
theorem rowMF_full (zs : List Nat) (k0 : Nat) : rowMF zs k0 zs.length = (fmarks k0 zs.length).map (Value.float .f32) := by simp [rowMF]
theorem rowMF_get (zs : List Nat) (k0 k : Nat) (hk : k < zs.length) : ∃ u, (rowMF zs k0 k)[k]? = some u := ⟨_, List.getElem?_eq_getElem (by simp [rowMF, fmarks_len]; omega)⟩
theorem rowMF_set (zs : List Nat) (k0 k : Nat) (hk : k < zs.length) : (rowMF zs k0 k).set k (.float .f32 (FloatKind.f32.nearest ((k0 + k : Nat) : Int))) = rowMF zs k0 (k + 1) := by
  unfold rowMF
  have l : ((fmarks k0 k).map (Value.float .f32)).length = k := by simp [fmarks_len]
  rw [List.set_append_right _ _ (by omega), l, Nat.sub_self, List.drop_eq_getElem_cons hk, List.map_cons, List.set_cons_zero]
  have e : fmarks k0 (k + 1) = fmarks k0 k ++ [FloatKind.f32.nearest ((k0 + k : Nat) : Int)] := by simp [fmarks, List.range_succ]
  rw [e, List.map_append, List.append_assoc]
  rfl
theorem markFloat32S_any (v : Value) (zs : List Nat) (k0 n B : Nat) (w : World) (hnz : n = zs.length) (h : w.ownsRow B 61 1 v n (zs.map (Value.float .f32))) (hn : k0 + n ≤ 1073741824) : Calls Try.prog 34 #[v, .int .i64 k0] w
    fun e w' => e = .returned (.int .i64 ((k0 + n : Nat) : Int)) ∧ w'.ownsRow B 61 1 v n ((fmarks k0 n).map (Value.float .f32)) ∧ w.grownBy w' v.ownBlock := by
  rcases h.2 with ⟨rfl, h0⟩ | ⟨g, cap, cur, rfl, hb, hg, rest⟩
  · subst h0
    have hm : (fmarks k0 0).map (Value.float .f32) = zs.map (Value.float .f32) := by rw [List.length_eq_zero_iff.1 hnz.symm]; rfl
    rw [hm]
    clear hm hnz
    go_enter Try.func34, Try.ntmps34
    go_wp2
    go_loopw [1, 5] (fun s i wr => ∃ k : Nat, i = .int .i64 k ∧ wr = w ∧ s = .int .i64 k0) (fun _ _ _ => 0)
    case atStart => exact ⟨0, rfl, rfl, rfl⟩
    case round =>
      obtain ⟨k, rfl, rfl, rfl⟩ := hrel
      go_wp2
      go_ret
      exact ⟨rfl, h, grown_refl _ _⟩
  · rw [rowMF_zero zs k0] at h
    have Hf := Lib.hid (rowMF_full zs k0)
    have Hs := Lib.hid (fun k => rowMF_set zs k0 k)
    have Hg := Lib.hid (fun k => rowMF_get zs k0 k)
    have Hn := Lib.hid hnz
    clear hg rest hb hnz
    go_enter Try.func34, Try.ntmps34
    go_wp2
    go_loopw [1, 5] (fun s i wr => ∃ k : Nat, k ≤ n ∧ i = .int .i64 k ∧ s = .int .i64 ((k0 + k : Nat) : Int) ∧ wr.ownsRow B 61 1 (.slice (some ⟨g, 0, none⟩) n cap) n (rowMF zs k0 k) ∧ w.grownBy wr (some g)) (fun _ i _ => n - (intOf i).toNat)
    case atStart => exact ⟨0, Nat.zero_le _, rfl, rfl, h, grown_refl _ _⟩
    case round =>
      obtain ⟨k, hk, rfl, rfl, hown, hgr⟩ := hrel
      by_cases hlt : k < n
      · obtain ⟨u, hu⟩ := Hg.out k (by rw [← Hn.out]; exact hlt)
        have hd := (hown.cellAt k (by omega)).trans hu
        have hf := hown.frozenAt k
        have hst := hown.stored k (.float .f32 (FloatKind.f32.nearest ((k0 + k : Nat) : Int)))
        rw [Hs.out k (by rw [← Hn.out]; exact hlt)] at hst
        go_wp2
        go_roundw
        case rel => exact ⟨k + 1, by omega, by go_num, by go_num, hst.1, grown_trans hgr (grown_set _ _ _)⟩
        case measure => simp [intOf]; omega
      · obtain rfl : k = n := by omega
        have hown' := hown
        rw [Hn.out, Hf.out, ← Hn.out] at hown'
        go_wp2
        go_ret
        exact ⟨rfl, hown', hgr⟩
theorem near_nn : ∀ k : Fin 260, isNan .f32 (FloatKind.f32.nearest (k.val : Int)) = false := by decide +kernel
theorem fmarks_get (k n i : Nat) (h : i < n) : (fmarks k n).getD i 0 = FloatKind.f32.nearest ((k + i : Nat) : Int) := by simp [fmarks, h]
theorem FIn_of_own {w : World} {B n : Nat} {e : TypeId} {v : Value} {zs : List Nat} (hn : n = zs.length) (h : w.ownsRow B e 1 v n (zs.map (Value.float .f32))) : FIn w v zs := by
  subst hn
  rcases h.2 with ⟨rfl, h0⟩ | ⟨g, cap, cur, rfl, hb, hg, rest⟩
  · rw [← h0]; exact ⟨none, 0, by rw [h0], .inl (List.length_eq_zero_iff.1 h0)⟩
  · refine ⟨_, cap, rfl, .inr ⟨g, 0, rfl, fun i hi => ?_⟩⟩
    rw [Nat.zero_add, h.cellAt i (by omega)]
    simp [hi]
theorem heldFloat32S_one (v : Value) (n : Nat) (w : World) (h : FIn w v (fmarks 1 n)) (hn : n ≤ 256) : Calls Try.prog 84 #[v, .int .i64 1] w (IOut w .i64 ((1 + n : Nat) : Int)) := by
  obtain ⟨a, cap, rfl, he⟩ := h
  have hsrc : ∀ k, k < n → ∃ b o, a = some ⟨b, o, none⟩ ∧ w.cell? ⟨b, o + k, none⟩ = some (.float .f32 (FloatKind.f32.nearest ((1 + k : Nat) : Int))) := by
    intro k hk
    rcases he with he | ⟨b, o, ha, hc⟩
    · have := congrArg List.length he
      rw [fmarks_len] at this
      simp at this
      omega
    · have := hc k (by rw [fmarks_len]; exact hk)
      rw [fmarks_get 1 n k hk] at this
      exact ⟨b, o, ha, this⟩
  clear he
  rw [fmarks_len]
  go_enter Try.func84, Try.ntmps84
  go_wp2_with fail
  go_loopw [1, 5] (fun s i wr => ∃ k m : Nat, k ≤ n ∧ i = .int .i64 k ∧ s = .int .i64 ((1 + k : Nat) : Int) ∧ wr = w.drewN m) (fun _ i _ => n - (intOf i).toNat)
  case atStart => exact ⟨0, 0, Nat.zero_le _, rfl, rfl, rfl⟩
  case round =>
    obtain ⟨k, m, hk, rfl, rfl, rfl⟩ := hrel
    by_cases hlt : k < n
    · obtain ⟨b, o, rfl, hc⟩ := hsrc k hlt
      clear hsrc
      have ho : FloatKind.f32.format.order (FloatKind.f32.nearest (1 + (k : Int))) (floatOfInt FloatKind.f32 (1 + (k : Int))) = some .eq := by
        have h := order_self (near_nn ⟨1 + k, by omega⟩)
        simp only at h
        rw [show ((1 + k : Nat) : Int) = 1 + (k : Int) by omega] at h
        exact h
      go_wp2_with fail
      go_roundw
      case rel => exact ⟨k + 1, _, by omega, by go_num, by go_num, rfl⟩
      case measure => simp [intOf]; omega
    · obtain rfl : k = n := by omega
      clear hsrc
      go_wp2_with fail
      go_ret
      exact ⟨rfl, _, rfl⟩
end Go.Proofs.Ytpbccoobkmahlaa
