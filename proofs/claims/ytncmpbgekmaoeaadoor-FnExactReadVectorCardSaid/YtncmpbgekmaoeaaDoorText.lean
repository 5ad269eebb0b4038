/- Texts that are built byte by byte, and joined: what lies in the rows that a call makes. No conditions but bounds on lengths. -/
import Derived.Test.YtncmpbgekmaoeaaDoorStr
import Derived.Test.YtncmpbgekmaoeaaDoorShelf
import Derived.Laws.IdiomStrings
import Derived.Deep.AppendLies
import Derived.OwnWalk
namespace Go.Proofs.YtncmpbgekmaoeaaDoor
open Go.Fl Go.RowKit

def byteV (b : UInt8) : Value := .int .u8 (b.toNat : Int)
theorem ba_app (a b : List UInt8) : (⟨a.toArray⟩ : ByteArray) ++ ⟨b.toArray⟩ = ⟨(a ++ b).toArray⟩ := by
  apply ByteArray.ext
  simp
theorem own_below {w w' : World} {base : Nat} {e : TypeId} {size n : Nat} {v : Value} {xs : List Value} (h : w.ownsRow base e size v n xs) (hb : Below w.heap.size w w') : w'.ownsRow base e size v n xs := by
  obtain ⟨h1, h2 | ⟨g, cap, cur, h3, h4, h5, h6⟩⟩ := h
  · exact ⟨h1, .inl h2⟩
  · refine ⟨h1, .inr ⟨g, cap, cur, h3, h4, ?_, h6⟩⟩
    have hlt : g < w.heap.size := by
      rcases Nat.lt_or_ge g w.heap.size with h | h
      · exact h
      · rw [Array.getElem?_eq_none h] at h5; cases h5
    exact (hb.block g hlt).trans h5
theorem own_drewN {w : World} {base : Nat} {e : TypeId} {size n : Nat} {v : Value} {xs : List Value} (h : w.ownsRow base e size v n xs) (k : Nat) : (w.drewN k).ownsRow base e size v n xs := h
/-- A row that grows at its own block, above a bound, is new memory alone. -/
theorem grown_below {w w' w0 : World} {base : Nat} {e : TypeId} {size n : Nat} {v : Value} {xs : List Value} (hb : Below w0.heap.size w0 w) (h : w.ownsRow base e size v n xs) (hbase : w0.heap.size ≤ base) (hg : w.grownBy w' v.ownBlock) : Below w0.heap.size w0 w' :=
  hb.grown hg hb.size (fun k hk => Nat.le_trans hbase (h.lt k hk).1)
theorem new1 (w : World) (u : Value) (t : TypeId) : ∀ (j : Nat) (x : Value), [u][j]? = some x → (w.alloc (.cells #[u] t)).cell? ((⟨w.heap.size, 0, none⟩ : Addr).add j) = some x := by
  intro j x hj
  match j, hj with
  | 0, hj => simp at hj; subst hj; simp [Addr.add]
theorem one1 {u : Value} (h : u.oneCell' = true) : ∀ x ∈ [u], x.oneCell' = true := by
  intro x hx; simp at hx; subst hx; exact h
/-- A text made of bytes that lie in a row. -/
theorem text_of_row {P : Program} {w : World} {base : Nat} {e src dst : TypeId} {v : Value} {l : List UInt8} (hs : P.underlying src = some (.slice e)) (he : P.underlying e = some (.int .u8)) (hd : P.underlying dst = some .string)
    (h : w.ownsRow base e 1 v l.length (l.map byteV)) (hl : 0 < l.length) : ∃ g cap, v = .slice (some ⟨g, 0, none⟩) l.length cap ∧ (convert src dst (.slice (some ⟨g, 0, none⟩) l.length cap)).run P w = .ok (.string ⟨l.toArray⟩) w := by
  obtain ⟨g, cap, rfl, _, _⟩ := h.form hl
  refine ⟨g, cap, rfl, run_convert_bytes_back w src dst e ⟨g, 0, none⟩ cap l hs he hd fun j hj => ?_⟩
  refine h.cells (g := g) rfl j _ ?_
  rw [List.getElem?_map, List.getElem?_eq_getElem hj]; rfl
/-- The texts with commas between, or the word none. -/
def joinT (xs : List (List UInt8)) : List UInt8 := if xs = [] then [110, 111, 110, 101] else Lib.join xs [44]
def joinS (xs : List ByteArray) : ByteArray := ⟨(joinT (xs.map (·.data.toList))).toArray⟩
theorem joined_any (v : Value) (n : Nat) (xs : List ByteArray) (w : World) (base : Nat) (hn : n = xs.length) (h : w.ownsRow base 9 1 v n (xs.map Value.string)) (hN : xs.length ≤ 1048576) (hlen : (Lib.join (xs.map (·.data.toList)) [44]).length ≤ 140737488355328) :
    Calls Tryd.prog 38 #[v] w fun e w' => e = .returned (.string (joinS xs)) ∧ Below w.heap.size w w' := by
  subst hn
  by_cases h0 : xs.length = 0
  · obtain rfl : xs = [] := List.eq_nil_of_length_eq_zero h0
    have hv : ∃ a c, v = .slice a 0 c := by
      obtain ⟨_, ⟨rfl, _⟩ | ⟨g, cap, cur, rfl, _⟩⟩ := h
      · exact ⟨_, _, rfl⟩
      · exact ⟨_, _, rfl⟩
    obtain ⟨a, c, rfl⟩ := hv
    clear h
    go_enter Tryd.func38, Tryd.ntmps38
    go_wp2
    go_ret
    exact ⟨rfl, bl_refl _⟩
  · obtain ⟨g, cap, rfl, hg, hlt⟩ := h.form (by omega)
    have hc : ∀ (j : Nat) x, xs[j]? = some x → w.cell? ⟨g, 0 + j, none⟩ = some (.string x) := by
      intro j x hx
      rw [Nat.zero_add, h.cellAt j (by have := (List.getElem?_eq_some_iff.1 hx).1; omega), List.getElem?_map, hx]; rfl
    have hcap : xs.length ≤ cap := by
      obtain ⟨_, ⟨hv, _⟩ | ⟨g', cap', cur, hv, _, _, hle, _⟩⟩ := h
      · cases hv
      · injection hv with _ _ h3; omega
    have HJ := Lib.hid (show joinS xs = ⟨(Lib.join (xs.map (·.data.toList)) [44]).toArray⟩ by
      unfold joinS joinT
      rw [if_neg (by intro e; apply h0; simpa using e)])
    have H := Tryd.strings_Join g 0 cap xs ⟨#[44]⟩ w hc hlt (by omega) hcap hlen
    have hz : ((xs.length : Int) == 0) = false := by simp; intro e; subst e; exact h0 rfl
    have Hh := Lib.hid H
    clear H hc h h0 hlen
    go_enter Tryd.func38, Tryd.ntmps38
    go_wp2_with (go_at_call 49; refine (Calls.mono (by exact Hh.out) ?_); rintro e w1 ⟨rfl, hb⟩)
    go_ret
    exact ⟨by rw [HJ.out]; rfl, hb⟩
end Go.Proofs.YtncmpbgekmaoeaaDoor
