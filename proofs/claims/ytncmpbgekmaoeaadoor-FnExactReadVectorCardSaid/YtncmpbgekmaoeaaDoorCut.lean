/- A text cut at its commas, and read as a list. No conditions but a bound on the length. -/
import Derived.Test.YtncmpbgekmaoeaaDoorText
import Derived.Test.YtncmpbgekmaoeaaDoorCutL
import Derived.Lib.Hide
namespace Go.Proofs.YtncmpbgekmaoeaaDoor
open Go.Fl Go.RowKit

def strV (l : List UInt8) : Value := .string ⟨l.toArray⟩
theorem info_strC : (Tryd.prog.info? 9).map (fun i => (i.zero, i.size, i.bytes)) = some (some (.string ByteArray.empty), 1, 16) := by kernel_rfl
theorem extract_eq (s : ByteArray) (f i : Nat) : s.extract f i = ⟨((s.data.toList.drop f).take (i - f)).toArray⟩ := by
  apply ByteArray.ext
  apply Array.ext'
  simp
def CutAll (s : ByteArray) (f i : Nat) (P : List (List UInt8)) : Prop := (i ≤ s.size ∧ CutSt s.data.toList f i P) ∨ (i = s.size + 1 ∧ P = cutL s.data.toList)
theorem size_list (s : ByteArray) : s.data.toList.length = s.size := by simp
theorem CutAll.len {s : ByteArray} {f i : Nat} {P : List (List UInt8)} (h : CutAll s f i P) : P.length ≤ s.size + 1 := by
  rcases h with ⟨_, h⟩ | ⟨_, rfl⟩
  · have := h.len; rw [size_list] at this; omega
  · have := cutL_len s.data.toList; rw [size_list] at this; exact this
set_option maxHeartbeats 1000000 in
set_option maxRecDepth 20000 in
theorem l01Cut_any (s : ByteArray) (hs : s.size ≤ 1048576) (w : World) : Calls Tryd.prog 46 #[.string s, .int .u8 44] w
    fun e w' => ∃ v, e = .returned v ∧ w'.ownsRow w.heap.size 9 1 v (cutL s.data.toList).length ((cutL s.data.toList).map strV) ∧ Below w.heap.size w w' := by
  obtain ⟨i1, hj1, hy0, hy1, hy2⟩ := info_parts info_strC
  go_enter Tryd.func46, Tryd.ntmps46
  go_wp2_with fail
  have hw0 : Below w.heap.size w (w.alloc (.cells #[] 9)) := bl_alloc (bl_refl w) _
  have hown0 : (w.alloc (.cells #[] 9)).ownsRow w.heap.size 9 1 (.slice (some ⟨w.heap.size, 0, none⟩) 0 0) 0 [] := World.ownsRow_lit w #[] 0 (Nat.le_refl _) (by unfold maxLen; omega) rfl
  go_loopw [5, 6, 7] (fun p fr ix wr => ∃ (i f k : Nat) (P : List (List UInt8)) (pv : Value), pv = p ∧ fr = .int .i64 f ∧ ix = .int .i64 i ∧ RowKit.Hid (k = P.length) ∧ k ≤ s.size + 1 ∧ i ≤ s.size + 1 ∧ f ≤ s.size + 1 ∧ wr.ownsRow w.heap.size 9 1 pv k (P.map strV) ∧ Below w.heap.size w wr ∧ RowKit.Hid (CutAll s f i P)) (fun _ _ i _ => s.size + 1 - (intOf i).toNat)
  case atStart => exact ⟨0, 0, 0, [], _, rfl, rfl, rfl, Lib.hid rfl, by omega, by omega, by omega, hown0, hw0, Lib.hid (.inl ⟨Nat.zero_le _, CutSt.start _⟩)⟩
  case round =>
    clear hown0 hw0
    obtain ⟨i, f, k, P, pv, rfl, rfl, rfl, hk, hkl, hi, hf, hpo, hbw, hst⟩ := hrel
    by_cases hle : i ≤ s.size
    · have hcs : CutSt s.data.toList f i P := by
        rcases hst.out with ⟨_, h⟩ | ⟨h, _⟩
        · exact h
        · omega
      have hfi := hcs.2.1
      have hcl := hcs.len
      rw [size_list, ← hk.out] at hcl
      have hsz := hbw.size
      by_cases hlast : i = s.size
      · subst hlast
        have HC := Lib.hid (show CutAll s (s.size + 1) (s.size + 1) (P ++ [(s.data.toList.drop f).take (s.size - f)]) from .inr ⟨rfl, by
          have := hcs
          rw [← size_list] at this
          rw [← size_list]; exact this.last⟩)
        clear hcs hst
        go_wp2_with (at_builtin; refine wpList_append_own _ rfl (.tmp 26) (.tmp 31) 52 rfl w.heap.size 9 i1 (.string ByteArray.empty) 1 16 Tryd.underlying52 hj1 hy0 hy1 hy2 rfl (by decide) _ k _ rfl (hpo.alloc _) ⟨wr.heap.size, 0, none⟩ 1 1 [strV ((s.data.toList.drop f).take (s.size - f))] rfl rfl (by rw [strV, ← extract_eq]; exact new1 wr _ _) (one1 rfl) (by unfold maxLen; omega) (by omega) (by simp; omega) ?_; intro v' w2 hown' hgrow _)
        have hb2 := grown_below (bl_alloc hbw _) (hpo.alloc _) (Nat.le_refl _) hgrow
        clear hgrow hpo
        go_roundw
        case rel => exact ⟨s.size + 1, s.size + 1, k + 1, P ++ [(s.data.toList.drop f).take (s.size - f)], _, rfl, by go_num, by go_num, Lib.hid (by rw [List.length_append, hk.out]; rfl), by omega, by omega, by omega, by rw [List.map_append]; exact hown', hb2, HC⟩
        case measure => simp [intOf]
      · have hlt : i < s.size := by omega
        have hz : ((i : Int) == s.size) = false := by simp; omega
        by_cases hc : s[i].toNat = 44
        · have HC := Lib.hid (show CutAll s (i + 1) (i + 1) (P ++ [(s.data.toList.drop f).take (i - f)]) from .inl ⟨by omega, hcs.comma (by rw [size_list]; exact hlt) (UInt8.toNat_inj.1 hc)⟩)
          clear hcs hst
          go_wp2_with (at_builtin; refine wpList_append_own _ rfl (.tmp 26) (.tmp 31) 52 rfl w.heap.size 9 i1 (.string ByteArray.empty) 1 16 Tryd.underlying52 hj1 hy0 hy1 hy2 rfl (by decide) _ k _ rfl (hpo.alloc _) ⟨wr.heap.size, 0, none⟩ 1 1 [strV ((s.data.toList.drop f).take (i - f))] rfl rfl (by rw [strV, ← extract_eq]; exact new1 wr _ _) (one1 rfl) (by unfold maxLen; omega) (by omega) (by simp; omega) ?_; intro v' w2 hown' hgrow _)
          have hb2 := grown_below (bl_alloc hbw _) (hpo.alloc _) (Nat.le_refl _) hgrow
          clear hgrow hpo
          go_roundw
          case rel => exact ⟨i + 1, i + 1, k + 1, P ++ [(s.data.toList.drop f).take (i - f)], _, rfl, by go_num, by go_num, Lib.hid (by rw [List.length_append, hk.out]; rfl), by omega, by omega, by omega, by rw [List.map_append]; exact hown', hb2, HC⟩
          case measure => simp [intOf]; omega
        · have HC := Lib.hid (show CutAll s f (i + 1) P from .inl ⟨by omega, hcs.other (by rw [size_list]; exact hlt) (fun e => hc (by
            have e' : s[i] = 44 := e
            rw [e']; rfl))⟩)
          clear hcs hst
          go_wp2_with fail
          go_roundw
          case rel => exact ⟨i + 1, f, k, P, _, rfl, rfl, by go_num, hk, by omega, by omega, by omega, hpo, hbw, HC⟩
          case measure => simp [intOf]; omega
    · have hP : P = cutL s.data.toList := by
        rcases hst.out with ⟨h, _⟩ | ⟨_, h⟩
        · omega
        · exact h
      rw [hk.out, hP] at hpo
      clear hst
      go_wp2_with fail
      go_ret
      exact ⟨_, rfl, hpo, hbw⟩
end Go.Proofs.YtncmpbgekmaoeaaDoor
