/- Marks written into a shape of a call's own. No conditions but bounds on lengths. -/
import Derived.Test.YtpbccoobkmahlaaKeep
namespace Go.Proofs.Ytpbccoobkmahlaa
open Go.Fl Go.RowKit

theorem markF_empty (a : Option Addr) (c k0 : Nat) (w : World) : Calls Try.prog 34 #[.slice a 0 c, .int .i64 k0] w fun e w' => e = .returned (.int .i64 (k0 : Nat)) ∧ w = w' := by
  go_enter Try.func34, Try.ntmps34
  go_wp2
  go_loopw [1, 5] (fun s i wr => ∃ k : Nat, i = .int .i64 k ∧ wr = w ∧ s = .int .i64 k0) (fun _ _ _ => 0)
  case atStart => exact ⟨0, rfl, rfl, rfl⟩
  case round =>
    obtain ⟨k, rfl, rfl, rfl⟩ := hrel
    go_wp2
    go_ret
    exact ⟨rfl, rfl⟩
/-- The node with marks from k on. -/
def mkN (p : PNd) (k : Nat) : PNd := ⟨⟨(k : Nat), ((k + 1 : Nat) : Int), ((k + 2 : Nat) : Int), fmarks (k + 3) p.d.xs.length⟩, p.nv, p.q⟩
def mkLen (p : PNd) : Nat := 3 + p.d.xs.length
def markP : List PNd → Nat → List PNd
  | [], _ => []
  | p :: r, k => mkN p k :: markP r (k + mkLen p)
/-- The first mark of the i-th node. -/
def kAt (P : List PNd) (k0 i : Nat) : Nat := k0 + ((P.take i).map mkLen).sum
theorem markP_len : ∀ (P : List PNd) (k : Nat), (markP P k).length = P.length
  | [], _ => rfl
  | p :: r, k => by simp [markP, markP_len r]
theorem markP_get : ∀ (P : List PNd) (k i : Nat) (h : i < P.length), (markP P k)[i]? = some (mkN P[i] (kAt P k i))
  | p :: r, k, 0, _ => by simp [markP, kAt]
  | p :: r, k, i + 1, h => by
    have := markP_get r (k + mkLen p) i (by simpa using h)
    simp only [markP, List.getElem?_cons_succ, List.getElem_cons_succ]
    rw [this]
    congr 2
    simp [kAt]; omega
theorem kAt_succ {P : List PNd} {k0 i : Nat} (h : i < P.length) : kAt P k0 (i + 1) = kAt P k0 i + mkLen P[i] := by
  unfold kAt; rw [List.take_succ_eq_append_getElem h]; simp only [List.map_append, List.sum_append, List.map_cons, List.map_nil, List.sum_cons, List.sum_nil]; omega
theorem kAt_zero (P : List PNd) (k0 : Nat) : kAt P k0 0 = k0 := by simp [kAt]
/-- The nodes when the first i are marked. -/
def mixP (P : List PNd) (k0 i : Nat) : List PNd := (markP P k0).take i ++ P.drop i
theorem mix_zero (P : List PNd) (k0 : Nat) : mixP P k0 0 = P := by simp [mixP]
theorem mix_full (P : List PNd) (k0 : Nat) : mixP P k0 P.length = markP P k0 := by
  unfold mixP; rw [List.take_of_length_le (by rw [markP_len]; exact Nat.le_refl _)]; simp
theorem mix_len (P : List PNd) (k0 i : Nat) (h : i ≤ P.length) : (mixP P k0 i).length = P.length := by simp [mixP, markP_len]; omega
theorem mix_get {P : List PNd} {k0 i j : Nat} (hi : i ≤ P.length) (hj : j < P.length) : (mixP P k0 i)[j]? = some (if j < i then mkN P[j] (kAt P k0 j) else P[j]) := by
  unfold mixP
  by_cases h : j < i
  · rw [List.getElem?_append_left (by simp [markP_len]; omega), List.getElem?_take, if_pos h, markP_get P k0 j hj, if_pos h]
  · rw [List.getElem?_append_right (by simp [markP_len]; omega), if_neg h]
    simp [markP_len, Nat.min_eq_left hi, hj, List.getElem?_drop, Nat.add_sub_cancel' (Nat.le_of_not_lt h)]
theorem mix_set {P : List PNd} {k0 i : Nat} (hi : i < P.length) : (mixP P k0 i).set i (mkN P[i] (kAt P k0 i)) = mixP P k0 (i + 1) := by
  apply List.ext_getElem?
  intro j
  by_cases hj : j < P.length
  · rw [mix_get (by omega) hj]
    by_cases hij : i = j
    · subst hij
      rw [List.getElem?_set_self (by rw [mix_len _ _ _ (by omega)]; exact hi), if_pos (by omega)]
    · rw [List.getElem?_set_ne hij, mix_get (by omega) hj]
      by_cases h : j < i
      · rw [if_pos h, if_pos (by omega)]
      · rw [if_neg h, if_neg (by omega)]
  · rw [List.getElem?_eq_none (by rw [List.length_set, mix_len _ _ _ (by omega)]; omega), List.getElem?_eq_none (by rw [mix_len _ _ _ (by omega)]; omega)]
/-- Three stores into the node i of the row. -/
theorem flatP_set3 : ∀ (P : List PNd) (i : Nat) (h : i < P.length) (x y z : Int) (xs : List Nat),
    (((flatP P).set (i * 4) (.int .i64 x)).set (i * 4 + 1) (.int .i64 y)).set (i * 4 + 2) (.int .i64 z) = flatP (P.set i ⟨⟨x, y, z, xs⟩, P[i].nv, P[i].q⟩)
  | p :: r, 0, _, x, y, z, xs => by simp [flatP, fl4]
  | p :: r, i + 1, hi, x, y, z, xs => by
    have ih := flatP_set3 r i (by simpa using hi) x y z xs
    have e0 : (i + 1) * 4 = 4 + i * 4 := by omega
    have el : (fl4 p).length = 4 := rfl
    rw [e0, flatP, Nat.add_assoc, Nat.add_assoc]
    rw [List.set_append_right _ _ (by omega), el, Nat.add_sub_cancel_left, List.set_append_right _ _ (by omega), el, Nat.add_sub_cancel_left, List.set_append_right _ _ (by omega), el, Nat.add_sub_cancel_left, ih]
    simp [flatP]
theorem NumR.keepAt {w w' : World} {lo hi : Nat} {p : PNd} (h : NumR w lo hi p) (hk : p.d.xs ≠ [] → w'.heap[p.q]? = w.heap[p.q]?) : NumR w' lo hi p := by
  obtain ⟨a, c, e, he | ⟨ha, hq, ho⟩⟩ := h
  · exact ⟨a, c, e, .inl he⟩
  · by_cases hx : p.d.xs = []
    · exact ⟨a, c, e, .inl hx⟩
    · refine ⟨a, c, e, .inr ⟨ha, hq, own_at ho (fun g hg => ?_)⟩⟩
      have : g = p.q := by rw [e, ha] at hg; simpa [Value.ownBlock] using hg.symm
      subst this; exact hk hx
/-- The numbers of one node, marked. -/
theorem markF_num (p : PNd) (k lo hi : Nat) (w : World) (h : NumR w lo hi p) (hn : k + p.d.xs.length ≤ 1073741824) : Calls Try.prog 34 #[p.nv, .int .i64 (k : Nat)] w
    fun e w' => e = .returned (.int .i64 ((k + p.d.xs.length : Nat) : Int)) ∧ (∀ x y z : Int, NumR w' lo hi ⟨⟨x, y, z, fmarks k p.d.xs.length⟩, p.nv, p.q⟩) ∧ ∃ row : Option Nat, w.grownBy w' row ∧ (∀ r, row = some r → r = p.q ∧ p.d.xs ≠ [] ∧ lo ≤ r ∧ r < hi) := by
  obtain ⟨a, c, e, he | ⟨ha, hq, ho⟩⟩ := h
  · rw [e, he]
    refine (markF_empty a c k w).mono ?_
    rintro e w' ⟨rfl, rfl⟩
    exact ⟨by simp, fun x y z => ⟨a, c, rfl, .inl rfl⟩, none, grown_refl _ _, fun r hr => by cases hr⟩
  · by_cases hx : p.d.xs = []
    · rw [e, hx]
      refine (markF_empty a c k w).mono ?_
      rintro e w' ⟨rfl, rfl⟩
      exact ⟨by simp, fun x y z => ⟨a, c, rfl, .inl rfl⟩, none, grown_refl _ _, fun r hr => by cases hr⟩
    · refine (markFloat32S_any p.nv p.d.xs k p.d.xs.length lo w rfl ho hn).mono ?_
      rintro e' w' ⟨rfl, ho', hg⟩
      have hob : p.nv.ownBlock = some p.q := by rw [e, ha]; rfl
      refine ⟨rfl, fun x y z => ⟨a, c, by simp [e, fmarks_len], .inr ⟨ha, hq, ?_⟩⟩, _, hg, fun r hr => ?_⟩
      · simpa [fmarks_len] using ho'
      · have := (ho.lt r hr).1
        rw [hob] at hr
        injection hr with hr
        subst hr
        exact ⟨rfl, hx, this, hq⟩
theorem grown_within {w w' : World} {lo hi : Nat} {row : Option Nat} (hg : w.grownBy w' row) (hr : ∀ r, row = some r → lo ≤ r ∧ r < hi) : Within lo hi w w' :=
  (Within.refl lo hi w).grown hg hr
theorem apt_at {P : List PNd} (h : P.Pairwise Apt) {i j : Nat} (hi : i < P.length) (hj : j < P.length) (hne : i ≠ j) (h1 : P[i].d.xs ≠ []) (h2 : P[j].d.xs ≠ []) : P[i].q ≠ P[j].q := by
  rw [List.pairwise_iff_getElem] at h
  rcases Nat.lt_or_ge i j with hlt | hge
  · rcases h i j hi hj hlt with h | h | h
    · exact absurd h h1
    · exact absurd h h2
    · exact h
  · rcases h j i hj hi (by omega) with h | h | h
    · exact absurd h h2
    · exact absurd h h1
    · exact fun e => h e.symm
theorem kAt_mono {P : List PNd} {k0 i : Nat} (_ : i ≤ P.length) : kAt P k0 i ≤ kAt P k0 P.length := by
  unfold kAt
  have e : P.take P.length = P.take i ++ P.drop i := by simp
  rw [e, List.map_append, List.sum_append]; omega
/-- The nodes when the first i are marked, in memory. -/
def MixAt (w : World) (lo hi : Nat) (v : Value) (P : List PNd) (k0 i : Nat) : Prop :=
  w.ownsRow lo 78 4 v P.length (flatP (mixP P k0 i)) ∧ ∀ (j : Nat) (p : PNd), (mixP P k0 i)[j]? = some p → NumR w lo hi p
/-- One node more is marked: what the walk reads and writes, and what it leaves. -/
theorem MixAt.step {w : World} {lo hi g cap k0 i : Nat} {P : List PNd} (h : MixAt w lo hi (.slice (some ⟨g, 0, none⟩) P.length cap) P k0 i) (hP : P.Pairwise Apt) (hi' : i < P.length) (hg : lo ≤ g ∧ g < hi) :
    (∀ j, j < 4 → ∃ u, w.cell? ⟨g, i * 4 + j, none⟩ = some u) ∧ (∀ j, w.frozen? ⟨g, i * 4 + j, none⟩ = false) ∧ w.cell? ⟨g, i * 4 + 3, none⟩ = some P[i].nv ∧
    ∀ x y z : Int, x = ((kAt P k0 i : Nat) : Int) → y = ((kAt P k0 i + 1 : Nat) : Int) → z = ((kAt P k0 i + 2 : Nat) : Int) → NumR (((w.setCell ⟨g, i * 4, none⟩ (.int .i64 x)).setCell ⟨g, i * 4 + 1, none⟩ (.int .i64 y)).setCell ⟨g, i * 4 + 2, none⟩ (.int .i64 z)) lo hi P[i] ∧
      ∀ w', (∀ x' y' z' : Int, NumR w' lo hi ⟨⟨x', y', z', fmarks (kAt P k0 i + 3) P[i].d.xs.length⟩, P[i].nv, P[i].q⟩) → (∃ row : Option Nat, (((w.setCell ⟨g, i * 4, none⟩ (.int .i64 x)).setCell ⟨g, i * 4 + 1, none⟩ (.int .i64 y)).setCell ⟨g, i * 4 + 2, none⟩ (.int .i64 z)).grownBy w' row ∧ (∀ r, row = some r → r = P[i].q ∧ P[i].d.xs ≠ [] ∧ lo ≤ r ∧ r < hi)) →
        MixAt w' lo hi (.slice (some ⟨g, 0, none⟩) P.length cap) P k0 (i + 1) ∧ Within lo hi w w' := by
  obtain ⟨h1, h2⟩ := h
  have hlen := mix_len P k0 i (by omega)
  have hgi := (mix_get (k0 := k0) (i := i) (j := i) (by omega) hi').trans (by rw [if_neg (by omega)])
  have hcell : ∀ j, j < 4 → w.cell? ⟨g, i * 4 + j, none⟩ = (fl4 P[i])[j]? := fun j hj => by
    rw [h1.cellAt (i * 4 + j) (by omega), flatP_get (mixP P k0 i) i j (by omega) hj]
    have e : (mixP P k0 i)[i]'(by omega) = P[i] := by
      have := List.getElem?_eq_getElem (l := mixP P k0 i) (i := i) (by omega)
      rw [hgi] at this; exact (Option.some.inj this).symm
    rw [e]
  have hne : P[i].d.xs ≠ [] → P[i].q ≠ g := by
    intro hx e
    obtain ⟨a, c, e1, he | ⟨ha, hq, ho⟩⟩ := h2 i _ hgi
    · exact hx he
    · exact own_types h1 ho g rfl (by rw [e1, ha, e]; rfl)
  have hneq : ∀ (j : Nat) (p : PNd), (mixP P k0 i)[j]? = some p → p.d.xs ≠ [] → p.q ≠ g := by
    intro j p hp hx e
    obtain ⟨a, c, e1, he | ⟨ha, hq, ho⟩⟩ := h2 j _ hp
    · exact hx he
    · exact own_types h1 ho g rfl (by rw [e1, ha, e]; rfl)
  refine ⟨fun j hj => ⟨_, (hcell j hj).trans (List.getElem?_eq_getElem (by simpa [fl4] using hj))⟩, fun j => h1.frozenAt _, hcell 3 (by omega), ?_⟩
  intro x y z hx hy hz
  subst hx hy hz
  have s1 := (h1.stored (i * 4) (.int .i64 ((kAt P k0 i : Nat) : Int)))
  have s2 := (s1.1.stored (i * 4 + 1) (.int .i64 ((kAt P k0 i + 1 : Nat) : Int)))
  have s3 := (s2.1.stored (i * 4 + 2) (.int .i64 ((kAt P k0 i + 2 : Nat) : Int)))
  have hgs := grown_trans (grown_trans s1.2 s2.2) s3.2
  refine ⟨(h2 i _ hgi).keepAt (fun hxx => ?_), ?_⟩
  · obtain ⟨a, c, e1, he | ⟨ha, hq, ho⟩⟩ := h2 i _ hgi
    · exact absurd he hxx
    · exact hgs.block _ ((ho.lt P[i].q (by rw [e1, ha]; rfl)).2) (fun e => hne hxx (Option.some.inj e))
  · rintro w' hn ⟨row, hg', hrow⟩
    have hset : (mixP P k0 i).set i (mkN P[i] (kAt P k0 i)) = mixP P k0 (i + 1) := mix_set hi'
    have e : (mixP P k0 i)[i]'(by omega) = P[i] := by
      have := List.getElem?_eq_getElem (l := mixP P k0 i) (i := i) (by omega)
      rw [hgi] at this; exact (Option.some.inj this).symm
    have hflat := flatP_set3 (mixP P k0 i) i (by omega) ((kAt P k0 i : Nat) : Int) ((kAt P k0 i + 1 : Nat) : Int) ((kAt P k0 i + 2 : Nat) : Int) (fmarks (kAt P k0 i + 3) P[i].d.xs.length)
    rw [e] at hflat
    have hflat2 : (((flatP (mixP P k0 i)).set (i * 4) (.int .i64 ((kAt P k0 i : Nat) : Int))).set (i * 4 + 1) (.int .i64 ((kAt P k0 i + 1 : Nat) : Int))).set (i * 4 + 2) (.int .i64 ((kAt P k0 i + 2 : Nat) : Int)) = flatP (mixP P k0 (i + 1)) := hflat.trans (by rw [← hset]; rfl)
    have o3 := s3.1
    rw [hflat2] at o3
    have hW : Within lo hi w w' := ((Within.refl lo hi w).grown hgs (fun r hr => by injection hr with hr; omega)).trans ((Within.refl lo hi _).grown hg' (fun r hr => (hrow r hr).2.2))
    have hrg : (Value.slice (some ⟨g, 0, none⟩) P.length cap).ownBlock = none ∨ (Value.slice (some ⟨g, 0, none⟩) P.length cap).ownBlock ≠ row := by
      refine .inr (fun er => ?_)
      have := hrow g er.symm
      exact hne this.2.1 this.1.symm
    refine ⟨⟨o3.kept hg' hrg, fun j p hp => ?_⟩, hW⟩
    by_cases hij : i = j
    · subst hij
      rw [mix_get (by omega) hi', if_pos (by omega)] at hp
      rw [← Option.some.inj hp]
      exact hn _ _ _
    · have hjl : j < P.length := by
        rcases Nat.lt_or_ge j P.length with hl | hl
        · exact hl
        · rw [List.getElem?_eq_none (by rw [mix_len _ _ _ (by omega)]; omega)] at hp; cases hp
      have hp' : (mixP P k0 i)[j]? = some p := by
        rw [← hset, List.getElem?_set_ne hij] at hp; exact hp
      have hR := h2 j p hp'
      refine hR.keepAt (fun hxx => ?_)
      obtain ⟨a, c, e1, he | ⟨ha, hq, ho⟩⟩ := hR
      · exact absurd he hxx
      · have hlt := (ho.lt p.q (by rw [e1, ha]; rfl)).2
        have hpq : p.q = P[j].q ∧ P[j].d.xs ≠ [] := by
          rw [mix_get (by omega) hjl] at hp'
          have := Option.some.inj hp'
          by_cases hjj : j < i
          · rw [if_pos hjj] at this
            subst this
            refine ⟨rfl, fun e0 => hxx ?_⟩
            simp [mkN, e0, fmarks]
          · rw [if_neg hjj] at this
            subst this
            exact ⟨rfl, hxx⟩
        refine (hg'.block _ (Nat.lt_of_lt_of_le hlt hgs.size) (fun er => ?_)).trans (hgs.block _ hlt (fun er => hneq j p hp' hxx (Option.some.inj er)))
        have hr := hrow p.q er.symm
        exact apt_at hP hi' hjl hij hr.2.1 hpq.2 (by rw [← hpq.1]; exact hr.1.symm)
end Go.Proofs.Ytpbccoobkmahlaa
