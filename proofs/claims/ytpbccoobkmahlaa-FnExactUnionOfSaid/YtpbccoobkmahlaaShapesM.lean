/- Lists of shapes: as they come in, their size, copies of them in memory of the laws' own. No conditions but bounds. -/
import Derived.Test.YtpbccoobkmahlaaGLawN
import Derived.Test.YtpbccoobkmahlaaJoinG
namespace Go.Proofs.Ytpbccoobkmahlaa
open Go.Fl Go.RowKit

def sh_ (LL : List (List Nd)) (i : Nat) : List Nd := LL.getD i []
/-- The slice value v holds the shapes LL in the world w. -/
def ShapesIn (w : World) (v : Value) (LL : List (List Nd)) : Prop := ∃ a cap, v = .slice a LL.length cap ∧ (LL = [] ∨ ∃ g o, a = some ⟨g, o, none⟩ ∧ ∀ i, i < LL.length → ∃ sv, w.cell? ⟨g, o + i, none⟩ = some sv ∧ NodesIn w sv (sh_ LL i))
def SmallS (LL : List (List Nd)) : Prop := LL.length ≤ maxLen ∧ ∀ i, i < LL.length → Small (sh_ LL i)
theorem ShapesIn.keep {w w' : World} {v : Value} {LL : List (List Nd)} (h : ShapesIn w v LL) (hb : Below w.heap.size w w') : ShapesIn w' v LL := by
  obtain ⟨a, cap, rfl, he | ⟨g, o, rfl, hc⟩⟩ := h
  · exact ⟨a, cap, rfl, .inl he⟩
  · exact ⟨_, cap, rfl, .inr ⟨g, o, rfl, fun i hi => by
      obtain ⟨sv, h1, h2⟩ := hc i hi
      exact ⟨sv, cellk h1 hb, h2.keep hb⟩⟩⟩
theorem ShapesIn.at_ {w : World} {a : Option Addr} {n cap : Nat} {LL : List (List Nd)} (h : ShapesIn w (.slice a n cap) LL) {i : Nat} (hi : i < LL.length) : ∃ g o sv, a = some ⟨g, o, none⟩ ∧ w.cell? ⟨g, o + i, none⟩ = some sv ∧ NodesIn w sv (sh_ LL i) := by
  obtain ⟨a', cap', e, he⟩ := h
  injection e with e1 e2 e3
  subst e1
  rcases he with rfl | ⟨g, o, rfl, hc⟩
  · simp at hi
  · obtain ⟨sv, h1, h2⟩ := hc i hi
    exact ⟨g, o, sv, rfl, h1, h2⟩
section
open Go.WideShapes Go.ChangeShapes Go.Deep
variable {H : Type} {enc : TypeId × Value → H} {P : Program} {w : World} {base : Nat} {spare : Nat → Bool} {held : Bool}
theorem open_shapes {r : Reach} {b0 : Nat} {ts t0 t e nt : TypeId} {g f0 f1 f2 f3 : Field} {v : Value} {d : DataW H} {p : List MemPlace} (h00 : P.underlying ts = some (.slice t0)) (hs : P.underlying t0 = some (.struct #[g])) (hones : oneCellFields P #[g] = true) (hCs : P.cellsOf t0 = 1) (hgt : g.type = t)
    (ht : P.underlying t = some (.slice e)) (he : P.underlying e = some (.struct #[f0, f1, f2, f3]))
    (hone : oneCellFields P #[f0, f1, f2, f3] = true) (hC : P.cellsOf e = 4) (h0 : P.underlying f0.type = some (.int .i64)) (h1 : P.underlying f1.type = some (.int .i64)) (h2 : P.underlying f2.type = some (.int .i64))
    (h3 : P.underlying f3.type = some (.slice nt)) (hf : P.underlying nt = some (.float .f32)) (hcf : P.cellsOf nt = 1)
    (hv : Value.okWide P w r b0 ts v) (h : DataW.Trod enc P w base spare held ts v d p) : ∃ LL, ShapesIn w v LL ∧ SmallS LL := by
  obtain ⟨a0, len, cap, rfl⟩ := okWide_slice h00 hv
  obtain ⟨fuel, hfl⟩ := h
  rcases open_slice_fields h00 hs hones hCs hfl with ⟨hcs, _⟩ | ⟨a, l, c, m, hcs, hle, hmx, hx⟩
  · simp [Value.cells] at hcs
    obtain ⟨rfl, rfl, rfl⟩ := hcs
    exact ⟨[], ⟨none, 0, rfl, .inl rfl⟩, Nat.zero_le _, fun i hi => by simp at hi⟩
  · simp [Value.cells] at hcs
    obtain ⟨rfl, rfl, rfl⟩ := hcs
    have each : ∀ i, i < len → ∃ L : List Nd, ∃ sv, w.cell? (a.add i) = some sv ∧ NodesIn w sv L ∧ Small L := by
      intro i hi
      obtain ⟨n, hj⟩ := hx i (by omega)
      obtain ⟨sv, y, c0, t0'⟩ := hj 0 g rfl
      rw [hgt] at t0'
      obtain ⟨L, hL, hS⟩ := nodes_of_cell ht he hone hC h0 h1 h2 h3 hf hcf t0'
      refine ⟨L, sv, ?_, hL, hS⟩
      have e1 : i * (#[g] : Array Field).size + 0 = i := by simp
      rw [e1] at c0
      exact c0
    obtain ⟨LL, hl, hL⟩ := list_of ([] : List Nd) len each
    subst hl
    refine ⟨LL, ⟨some a, cap, rfl, ?_⟩, hmx, fun i hi => by obtain ⟨sv, _, _, hS⟩ := hL i hi; exact hS⟩
    rcases Nat.eq_zero_or_pos LL.length with h0' | h0'
    · exact .inl (List.length_eq_zero_iff.1 h0')
    · obtain ⟨sv0, c0, _⟩ := hL 0 h0'
      rw [add_zero'] at c0
      have hsp := cell_spot c0
      obtain ⟨b, o, s⟩ := a
      simp only at hsp
      subst hsp
      refine .inr ⟨b, o, rfl, fun i hi => ?_⟩
      obtain ⟨sv, c1, hN, _⟩ := hL i hi
      rw [add_eq] at c1
      exact ⟨sv, c1, hN⟩
end
/-- The sizes of the first k shapes. -/
def sT (LL : List (List Nd)) (k : Nat) : Nat := ((LL.take k).map tot).sum
theorem sT_succ {LL : List (List Nd)} {k : Nat} {L : List Nd} (hk : k < LL.length) (hd : sh_ LL k = L) : sT LL (k + 1) = sT LL k + tot L := by
  have e : LL[k] = L := by rw [← hd]; simp [sh_, hk]
  unfold sT
  rw [List.take_succ_eq_append_getElem hk, e]; simp
theorem sT_mono (LL : List (List Nd)) (k m : Nat) : sT LL k ≤ sT LL (k + m) := by
  induction m with
  | zero => exact Nat.le_refl _
  | succ m ih =>
    by_cases h : k + m < LL.length
    · have := sT_succ h rfl
      have e : k + (m + 1) = k + m + 1 := rfl
      rw [e]; omega
    · have e1 : LL.take (k + m) = LL := List.take_of_length_le (by omega)
      have e2 : LL.take (k + (m + 1)) = LL := List.take_of_length_le (by omega)
      unfold sT at ih ⊢
      rw [e1] at ih
      rw [e2]; exact ih
theorem sT_le {LL : List (List Nd)} {k : Nat} (h : k ≤ LL.length) : sT LL k ≤ sT LL LL.length := by
  have := sT_mono LL k (LL.length - k)
  rwa [show k + (LL.length - k) = LL.length by omega] at this
def totS (LL : List (List Nd)) : Nat := LL.length + sT LL LL.length
theorem totS_at {LL : List (List Nd)} {k : Nat} {L : List Nd} (h : totS LL ≤ 1048576) (hk : k < LL.length) (hd : sh_ LL k = L) : tot L ≤ 1048576 := by
  have h1 := sT_succ hk hd
  have h2 := sT_le (LL := LL) (k := k + 1) (by omega)
  unfold totS at h; omega
def SzS (LL : List (List Nd)) (l : Nat) (w : World) : Ending → World → Prop := fun e w' => (totS LL ≤ l ∧ e = .returned (.int .i64 ((l - totS LL : Nat) : Int)) ∨ ¬ totS LL ≤ l ∧ e = .returned (.int .i64 (-1))) ∧ Below w.heap.size w w'
theorem SzS_no {LL : List (List Nd)} {l : Nat} {w w' : World} (h : ¬ totS LL ≤ l) (hb : Below w.heap.size w w') : SzS LL l w (.returned (.int .i64 (-1))) w' := ⟨.inr ⟨h, rfl⟩, hb⟩
theorem SzS_yes {LL : List (List Nd)} {l m : Nat} {w w' : World} (h : totS LL ≤ l) (hm : m = l - totS LL) (hb : Below w.heap.size w w') : SzS LL l w (.returned (.int .i64 m)) w' := by subst hm; exact ⟨.inl ⟨h, rfl⟩, hb⟩
set_option maxHeartbeats 1000000 in
set_option maxRecDepth 20000 in
theorem szShapeS_any (v : Value) (LL : List (List Nd)) (l : Nat) (w : World) (h : ShapesIn w v LL) (hs : SmallS LL) (hl : l ≤ 1048576) : Calls Try.prog 13 #[v, .int .i64 l] w (SzS LL l w) := by
  obtain ⟨a, cap, rfl, _⟩ := id h
  have hlm : LL.length ≤ 9223372036854775807 := by have := hs.1; unfold maxLen at this; omega
  have Hs := Lib.hid hs
  clear hs
  by_cases hx : LL.length ≤ l
  · have H := Lib.hid h
    clear h
    have hn : decide (((l - LL.length : Nat) : Int) < 0) = false := by simp
    have he : (l : Int) - LL.length = ((l - LL.length : Nat) : Int) := by omega
    go_enter Try.func13, Try.ntmps13
    go_wp2_with fail
    go_loopw [1, 5] (fun lv i wr => ∃ (k m : Nat), k ≤ LL.length ∧ i = .int .i64 k ∧ lv = .int .i64 m ∧ m ≤ 1048576 ∧ RowKit.Hid (LL.length + sT LL k ≤ l ∧ m = l - (LL.length + sT LL k)) ∧ Below w.heap.size w wr) (fun _ i _ => LL.length - (intOf i).toNat)
    case atStart => exact ⟨0, l - LL.length, Nat.zero_le _, rfl, by first | rfl | go_num | (congr 1; omega), by omega, Lib.hid ⟨by simpa [sT] using hx, by simp [sT]⟩, bl_refl _⟩
    case round =>
      obtain ⟨k, m, hk, rfl, rfl, hm, hst, hbw⟩ := hrel
      by_cases hlt : k < LL.length
      · obtain ⟨g, o, sv, rfl, hc0, hN⟩ := (H.out.keep hbw).at_ hlt
        obtain ⟨L, hd⟩ : ∃ L, sh_ LL k = L := ⟨_, rfl⟩
        have hS := Hs.out.2 k hlt
        rw [hd] at hN hS
        have hsn := sT_succ hlt hd
        have hle := sT_le (LL := LL) (k := k + 1) (by omega)
        have HC := Lib.hid (szShape_any sv L m wr hN hS hm)
        obtain ⟨av, cv, rfl, _⟩ := id hN
        obtain ⟨hs1, hs2⟩ := hst.out
        clear hd hN hS
        by_cases hxx : tot L ≤ m
        · have hn2 : decide (((m - tot L : Nat) : Int) < 0) = false := by simp
          have HS := Lib.hid (show LL.length + sT LL (k + 1) ≤ l ∧ m - tot L = l - (LL.length + sT LL (k + 1)) by omega)
          clear hs1 hs2 hsn hle
          go_wp2_with (go_at_call 22; refine (Calls.mono (by exact HC.out) ?_); rintro e w1 ⟨⟨_, rfl⟩ | ⟨hno, rfl⟩, hb1⟩)
          all_goals first | exact absurd hxx hno | skip
          all_goals (go_wp2_with fail; go_roundw)
          case rel => exact ⟨k + 1, m - tot L, by omega, by go_num, rfl, by omega, HS, bl_call hbw hb1⟩
          case measure => simp [intOf]; omega
        · have HN := Lib.hid (show ¬ totS LL ≤ l by unfold totS; omega)
          clear hs1 hs2 hsn hle
          go_wp2_with (go_at_call 22; refine (Calls.mono (by exact HC.out) ?_); rintro e w1 ⟨⟨hno, rfl⟩ | ⟨_, rfl⟩, hb1⟩)
          all_goals first | exact absurd hno hxx | skip
          all_goals (go_wp2_with fail; go_ret; exact SzS_no HN.out (bl_call hbw hb1))
      · have hkl : k = LL.length := by omega
        obtain ⟨hs1, hs2⟩ := hst.out
        rw [hkl] at hs1 hs2
        have HS := Lib.hid (show totS LL ≤ l from hs1)
        have HM := Lib.hid (show m = l - totS LL from hs2)
        clear hs1 hs2
        go_wp2_with fail
        go_ret
        exact SzS_yes HS.out HM.out hbw
  · have HN := Lib.hid (show ¬ totS LL ≤ l by unfold totS; omega)
    clear h
    go_enter Try.func13, Try.ntmps13
    go_wp2_with fail
    go_ret
    exact SzS_no HN.out (bl_refl _)
/-- A list of shapes in memory of its own, each shape apart from the others. -/
def OwnSS (w : World) (lo hi : Nat) (v : Value) (LL : List (List Nd)) : Prop := ∃ (g : Nat) (f : Nat → Value) (B : Nat → Nat), v = .slice (some ⟨g, 0, none⟩) LL.length LL.length ∧ lo ≤ g ∧ g < B 0 ∧ B LL.length ≤ hi ∧ hi ≤ w.heap.size ∧ ∀ i, i < LL.length → w.cell? ⟨g, i, none⟩ = some (f i) ∧ B i ≤ B (i + 1) ∧ OwnSh w (B i) (B (i + 1)) (f i) (sh_ LL i)
theorem OwnSS.keep {w w' : World} {lo hi : Nat} {v : Value} {LL : List (List Nd)} (h : OwnSS w lo hi v LL) (hb : Below w.heap.size w w') : OwnSS w' lo hi v LL := by
  obtain ⟨g, f, B, e, h1, h2, h3, h4, h5⟩ := h
  exact ⟨g, f, B, e, h1, h2, h3, Nat.le_trans h4 hb.size, fun i hi => ⟨cellk (h5 i hi).1 hb, (h5 i hi).2.1, (h5 i hi).2.2.keep hb⟩⟩
/-- A list of shapes that can be read, each in memory of somebody's own. -/
def ShR (w : World) (v : Value) (LL : List (List Nd)) : Prop := ∃ (g : Nat) (f : Nat → Value), v = .slice (some ⟨g, 0, none⟩) LL.length LL.length ∧ ∀ i, i < LL.length → w.cell? ⟨g, i, none⟩ = some (f i) ∧ ∃ lo hi, OwnSh w lo hi (f i) (sh_ LL i)
theorem OwnSS.read {w : World} {lo hi : Nat} {v : Value} {LL : List (List Nd)} (h : OwnSS w lo hi v LL) : ShR w v LL := by
  obtain ⟨g, f, B, e, h1, h2, h3, h4, h5⟩ := h
  exact ⟨g, f, e, fun i hi => ⟨(h5 i hi).1, _, _, (h5 i hi).2.2⟩⟩
theorem ShR.keep {w w' : World} {v : Value} {LL : List (List Nd)} (h : ShR w v LL) (hb : Below w.heap.size w w') : ShR w' v LL := by
  obtain ⟨g, f, e, h⟩ := h
  exact ⟨g, f, e, fun i hi => by
    obtain ⟨h1, lo, hi', h2⟩ := h i hi
    exact ⟨cellk h1 hb, lo, hi', h2.keep hb⟩⟩
theorem info_sh : (Try.prog.info? 26).map (fun i => (i.zero, i.size, i.bytes)) = some (some (.agg #[.slice none 0 0]), 1, 24) := by kernel_rfl
/-- The row when the first k shapes are laid. -/
def rowS (n k : Nat) (f : Nat → Value) : List Value := (List.range n).map fun j => if j < k then f j else .slice none 0 0
theorem rowS_zero (n : Nat) (f : Nat → Value) : (madeCells (Value.agg #[.slice none 0 0]).cells (n * 1)).toList = rowS n 0 f := by
  refine List.ext_getElem (by simp [madeCells, rowS]) fun i h1 h2 => ?_
  simp [madeCells, Value.cells, Nat.mod_one, rowS]
theorem rowS_at {n k j : Nat} {f : Nat → Value} (h : j < n) (hk : j < k) : (rowS n k f)[j]? = some (f j) := by simp [rowS, h, hk]
theorem rowS_new {n k : Nat} {f : Nat → Value} (h : k < n) : (rowS n k f)[k]? = some (.slice none 0 0) := by simp [rowS, h]
theorem rowS_set {n k : Nat} (f : Nat → Value) (x : Value) : (rowS n k f).set k x = rowS n (k + 1) (fun j => if j = k then x else f j) := by
  refine List.ext_getElem (by simp [rowS]) fun i h1 h2 => ?_
  simp only [rowS, List.getElem_set, List.getElem_map, List.getElem_range]
  by_cases h : k = i
  · subst h; simp
  · rw [if_neg h]
    have h' : ¬ i = k := fun e => h e.symm
    by_cases hi : i < k
    · simp [h', hi, Nat.lt_succ_of_lt hi]
    · have : ¬ i < k + 1 := by omega
      simp [hi, this]
def LaidS (w : World) (lo u n k : Nat) (LL : List (List Nd)) : Prop := ∃ (f : Nat → Value) (B : Nat → Nat), w.ownsRow lo 26 1 (.slice (some ⟨u, 0, none⟩) n n) n (rowS n k f) ∧ u < B 0 ∧ B k ≤ w.heap.size ∧ ∀ i, i < k → B i ≤ B (i + 1) ∧ OwnSh w (B i) (B (i + 1)) (f i) (sh_ LL i)
theorem mono_all {B : Nat → Nat} {k : Nat} (h : ∀ i, i < k → B i ≤ B (i + 1)) : ∀ i j, i ≤ j → j ≤ k → B i ≤ B j := by
  intro i j hij
  induction j with
  | zero =>
    intro _
    obtain rfl : i = 0 := by omega
    exact Nat.le_refl _
  | succ j ih =>
    intro hj
    by_cases e : i = j + 1
    · rw [e]; exact Nat.le_refl _
    · exact Nat.le_trans (ih (by omega) (by omega)) (h j (by omega))
theorem LaidS.place {w : World} {lo u n k : Nat} {LL : List (List Nd)} (h : LaidS w lo u n k LL) (hk : k < n) : w.cell? ⟨u, k, none⟩ = some (.slice none 0 0) ∧ w.frozen? ⟨u, k, none⟩ = false := by
  obtain ⟨f, B, ho, _⟩ := h
  exact ⟨(ho.cellAt k (by omega)).trans (rowS_new hk), ho.frozenAt k⟩
theorem LaidS.keep {w w' : World} {lo u n k : Nat} {LL : List (List Nd)} (h : LaidS w lo u n k LL) (hb : Below w.heap.size w w') : LaidS w' lo u n k LL := by
  obtain ⟨f, B, ho, h1, h2, h3⟩ := h
  exact ⟨f, B, own_keep ho hb, h1, Nat.le_trans h2 hb.size, fun i hi => ⟨(h3 i hi).1, (h3 i hi).2.keep hb⟩⟩
theorem LaidS.store {w0 w : World} {lo u n k : Nat} {LL : List (List Nd)} {L : List Nd} {sv : Value} (h : LaidS w0 lo u n k LL) (hb : Below w0.heap.size w0 w) (hd : sh_ LL k = L) (hS : OwnSh w w0.heap.size w.heap.size sv L) :
    LaidS (w.setCell ⟨u, k, none⟩ sv) lo u n (k + 1) LL := by
  obtain ⟨f, B, ho0, h1, h2, h30⟩ := h
  have ho := own_keep ho0 hb
  have h3 : ∀ i, i < k → B i ≤ B (i + 1) ∧ OwnSh w (B i) (B (i + 1)) (f i) (sh_ LL i) := fun i hi => ⟨(h30 i hi).1, (h30 i hi).2.keep hb⟩
  have hst := (ho.stored k sv).1
  rw [rowS_set] at hst
  have hmono := mono_all (fun i hi => (h3 i hi).1)
  refine ⟨_, fun j => if j ≤ k then B j else w.heap.size, hst, by simpa using h1, by { show (if k + 1 ≤ k then B (k + 1) else w.heap.size) ≤ _; rw [if_neg (by omega)]; simp [World.setCell] }, fun i hi => ?_⟩
  have e1 : (if i ≤ k then B i else w.heap.size) = B i := if_pos (by omega)
  have hui : u < B i := Nat.lt_of_lt_of_le h1 (hmono 0 i (Nat.zero_le _) (by omega))
  by_cases hik : i = k
  · subst hik
    have e2 : (if i + 1 ≤ i then B (i + 1) else w.heap.size) = w.heap.size := if_neg (by omega)
    simp only [e1, e2, if_true, hd]
    exact ⟨Nat.le_trans h2 hb.size, OwnSh.low (OwnSh.mono hS h2 (Nat.le_refl _) (Nat.le_refl _)) (p := ⟨u, i, none⟩) hui sv⟩
  · have e2 : (if i + 1 ≤ k then B (i + 1) else w.heap.size) = B (i + 1) := if_pos (by omega)
    have hq := h3 i (by omega)
    simp only [e1, e2, if_neg hik]
    exact ⟨hq.1, OwnSh.low hq.2 (p := ⟨u, k, none⟩) hui sv⟩
end Go.Proofs.Ytpbccoobkmahlaa
