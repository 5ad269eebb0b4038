/- Shapes copied by the laws into memory of their own. No conditions but bounds. -/
import Derived.Test.YtpbccoobkmahlaaMarkW
namespace Go.Proofs.Ytpbccoobkmahlaa
open Go.Fl Go.RowKit

set_option maxHeartbeats 1000000 in
theorem toNode_own (k a b : Int) (v : Value) (xs : List Nat) (w : World) (h : FIn w v xs) (hn : xs.length ≤ 1048576) :
    Calls Try.prog 87 #[.agg #[.int .i64 k, .int .i64 a, .int .i64 b, v]] w fun e w' => ∃ g, e = .returned (.agg #[.int .i64 k, .int .i64 a, .int .i64 b, .slice (some ⟨g, 0, none⟩) xs.length xs.length]) ∧ w.heap.size ≤ g ∧ w'.ownsRow w.heap.size 61 1 (.slice (some ⟨g, 0, none⟩) xs.length xs.length) xs.length (xs.map (Value.float .f32)) ∧ Below w.heap.size w w' := by
  obtain ⟨av, cv, rfl, _⟩ := id h
  go_enter Try.func87, Try.ntmps87
  go_wp2_with fail
  have hb0 : Below w.heap.size w (((w.alloc (.cells #[.int .i64 k, .int .i64 a, .int .i64 b, .slice av xs.length cv] 107)).alloc (.cells #[.int .i64 0, .int .i64 0, .int .i64 0, .slice none 0 0] 78)).alloc (.cells #[.int .i64 k, .int .i64 a, .int .i64 b, .slice none 0 0] 78)) := bl_alloc (bl_alloc (bl_alloc (bl_refl w) _) _) _
  refine (toFloat32S_any _ xs _ (h.keep hb0) hn).mono ?_
  rintro e w1 ⟨g, rfl, hg, ho, hb1⟩
  have hsz := hb1.size
  simp at hsz hg
  have hO : Bl4 w1 (w.heap.size + 1 + 1) (.int .i64 k) (.int .i64 a) (.int .i64 b) (.slice none 0 0) := Bl4.below (new3 _ _ _ _) hb1 (by simp)
  have hR : Bl4 w1 (w.heap.size + 1) (.int .i64 0) (.int .i64 0) (.int .i64 0) (.slice none 0 0) := Bl4.below (new2 _ _ _ _) hb1 (by simp)
  obtain ⟨o0, o1, o2, o3⟩ := hO.cells
  obtain ⟨r0, r1, r2, r3⟩ := hR.cells
  have fo := hO.frozen 3
  have f0 := hR.frozen 0
  have f1 := hR.frozen 1
  have f2 := hR.frozen 2
  have f3 := hR.frozen 3
  go_wp2_with fail
  have hne1 : w.heap.size + 1 + 1 ≠ g := by omega
  have hne2 : w.heap.size + 1 ≠ g := by omega
  refine bodyPost_ret (results_cell_row rfl _ _ (w.heap.size + 1) 78 _ (0, 0) _ rfl (Bl4.sets (hR.far (by simp) _) _ _ _ _) Try.underlying78 rfl (by kernel_rfl)) rfl ?_
  refine ⟨g, rfl, by omega, ?_, ?_⟩
  · refine own_mono (own_at ho (fun g' hg' => ?_)) (by simp; omega)
    obtain rfl : g = g' := by simpa [Value.ownBlock] using hg'
    have ne1 : ∀ (W : World) (i : Nat) (u : Value), (W.setCell ⟨w.heap.size + 1 + 1, i, none⟩ u).heap[g]? = W.heap[g]? := fun W i u => Below.heap_setCell W _ u g (fun e => hne1 e.symm)
    have ne2 : ∀ (W : World) (i : Nat) (u : Value), (W.setCell ⟨w.heap.size + 1, i, none⟩ u).heap[g]? = W.heap[g]? := fun W i u => Below.heap_setCell W _ u g (fun e => hne2 e.symm)
    exact (ne2 _ _ _).trans ((ne2 _ _ _).trans ((ne2 _ _ _).trans ((ne2 _ _ _).trans (ne1 _ _ _))))
  · have hb2 := bl_call hb0 hb1
    exact bl_set (bl_set (bl_set (bl_set (bl_set hb2 (by show _ ≤ w.heap.size + 1 + 1; omega) _) (by show _ ≤ w.heap.size + 1; omega) _) (by show _ ≤ w.heap.size + 1; omega) _) (by show _ ≤ w.heap.size + 1; omega) _) (by show _ ≤ w.heap.size + 1; omega) _
def zP : PNd := ⟨⟨0, 0, 0, []⟩, .slice none 0 0, 0⟩
theorem flatP_made (n : Nat) : (madeCells (Value.agg #[.int .i64 0, .int .i64 0, .int .i64 0, .slice none 0 0]).cells (n * 4)).toList = flatP (List.replicate n zP) := by
  refine List.ext_getElem? fun i => ?_
  by_cases hi : i < n * 4
  · have e : i = i / 4 * 4 + i % 4 := by omega
    have h1 : i / 4 < (List.replicate n zP).length := by simp; omega
    have h2 : i % 4 < 4 := Nat.mod_lt _ (by omega)
    have := flatP_get (List.replicate n zP) (i / 4) (i % 4) h1 h2
    rw [← e, List.getElem_replicate] at this
    rw [this]
    rcases (show i % 4 = 0 ∨ i % 4 = 1 ∨ i % 4 = 2 ∨ i % 4 = 3 by omega) with h | h | h | h <;> simp [madeCells, Value.cells, hi, h, fl4, zP]
  · rw [List.getElem?_eq_none (by simp [madeCells]; omega), List.getElem?_eq_none (by simp [flatP_len]; omega)]
/-- Four stores into the node i of the row. -/
theorem flatP_set4 : ∀ (P : List PNd) (i : Nat) (_ : i < P.length) (p : PNd),
    ((((flatP P).set (i * 4) (.int .i64 p.d.k)).set (i * 4 + 1) (.int .i64 p.d.a)).set (i * 4 + 2) (.int .i64 p.d.b)).set (i * 4 + 3) p.nv = flatP (P.set i p)
  | q :: r, 0, _, p => by simp [flatP, fl4]
  | q :: r, i + 1, hi, p => by
    have ih := flatP_set4 r i (by simpa using hi) p
    have e0 : (i + 1) * 4 = 4 + i * 4 := by omega
    have el : (fl4 q).length = 4 := rfl
    rw [e0, flatP, Nat.add_assoc, Nat.add_assoc, Nat.add_assoc]
    rw [List.set_append_right _ _ (by omega), el, Nat.add_sub_cancel_left, List.set_append_right _ _ (by omega), el, Nat.add_sub_cancel_left, List.set_append_right _ _ (by omega), el, Nat.add_sub_cancel_left, List.set_append_right _ _ (by omega), el, Nat.add_sub_cancel_left, ih]
    simp [flatP]
/-- k nodes of n are laid. -/
def LaidK (w : World) (lo u n k : Nat) (L : List Nd) : Prop := ∃ P : List PNd, P.map (·.d) = L.take k ∧ P.length = k ∧ w.ownsRow lo 78 4 (.slice (some ⟨u, 0, none⟩) n n) n (flatP (P ++ List.replicate (n - k) zP)) ∧ (∀ p ∈ P, NumR w lo w.heap.size p) ∧ P.Pairwise Apt
theorem LaidK.keep {w w' : World} {lo u n k : Nat} {L : List Nd} (h : LaidK w lo u n k L) (hb : Below w.heap.size w w') : LaidK w' lo u n k L := by
  obtain ⟨P, e1, e2, ho, hn, hp⟩ := h
  refine ⟨P, e1, e2, own_keep ho hb, fun p hpp => ?_, hp⟩
  obtain ⟨a, c, e, he | ⟨ha, hq, hr⟩⟩ := hn p hpp
  · exact ⟨a, c, e, .inl he⟩
  · exact ⟨a, c, e, .inr ⟨ha, Nat.lt_of_lt_of_le hq hb.size, own_keep hr hb⟩⟩
theorem LaidK.place {w : World} {lo u n k : Nat} {L : List Nd} (h : LaidK w lo u n k L) (i : Nat) (hi : i < n * 4) (hk : k ≤ n) : (∃ x, w.cell? ⟨u, i, none⟩ = some x) ∧ w.frozen? ⟨u, i, none⟩ = false := by
  obtain ⟨P, e1, e2, ho, hn, hp⟩ := h
  refine ⟨⟨_, (ho.cellAt i hi).trans (List.getElem?_eq_getElem (by rw [flatP_len]; simp; omega))⟩, ho.frozenAt i⟩
/-- One node more is laid: before the call for its numbers (w0) and behind it (w). -/
theorem LaidK.store {w0 w : World} {lo u n k q : Nat} {L : List Nd} {d : Nd} (h : LaidK w0 lo u n k L) (hb : Below w0.heap.size w0 w) (hk : k < n) (hL : k < L.length) (hd : L.getD k default = d) (hq : w0.heap.size ≤ q)
    (hf : w.ownsRow w0.heap.size 61 1 (.slice (some ⟨q, 0, none⟩) d.xs.length d.xs.length) d.xs.length (d.xs.map (Value.float .f32))) (hlo : lo ≤ w0.heap.size) :
    LaidK (lay4 w u k (.int .i64 d.k) (.int .i64 d.a) (.int .i64 d.b) (.slice (some ⟨q, 0, none⟩) d.xs.length d.xs.length)) lo u n (k + 1) L := by
  obtain ⟨P, e1, e2, ho0, hn0, hp⟩ := h
  have ho := own_keep ho0 hb
  have hn : ∀ p ∈ P, NumR w lo w.heap.size p := fun p hpp => by
    obtain ⟨a, c, e, he | ⟨ha, hq, hr⟩⟩ := hn0 p hpp
    · exact ⟨a, c, e, .inl he⟩
    · exact ⟨a, c, e, .inr ⟨ha, Nat.lt_of_lt_of_le hq hb.size, own_keep hr hb⟩⟩
  obtain ⟨pn, hpn⟩ : ∃ pn : PNd, pn = ⟨d, .slice (some ⟨q, 0, none⟩) d.xs.length d.xs.length, q⟩ := ⟨_, rfl⟩
  have s1 := ho.stored (k * 4) (.int .i64 d.k)
  have s2 := s1.1.stored (k * 4 + 1) (.int .i64 d.a)
  have s3 := s2.1.stored (k * 4 + 2) (.int .i64 d.b)
  have s4 := s3.1.stored (k * 4 + 3) (.slice (some ⟨q, 0, none⟩) d.xs.length d.xs.length)
  have hg := grown_trans (grown_trans (grown_trans s1.2 s2.2) s3.2) s4.2
  have hset := flatP_set4 (P ++ List.replicate (n - k) zP) k (by simp [e2]; omega) pn
  rw [show pn.d = d by rw [hpn], show pn.nv = .slice (some ⟨q, 0, none⟩) d.xs.length d.xs.length by rw [hpn]] at hset
  have hrep : (P ++ List.replicate (n - k) zP).set k pn = (P ++ [pn]) ++ List.replicate (n - (k + 1)) zP := by
    rw [List.set_append_right _ _ (by omega), e2, Nat.sub_self, show n - k = (n - (k + 1)) + 1 by omega, List.replicate_succ, List.set_cons_zero, List.append_assoc]; rfl
  have o4 := s4.1
  rw [hset, hrep] at o4
  have hd' : L[k] = d := by rw [← hd]; simp [hL]
  have keepN : ∀ p : PNd, NumR w lo w.heap.size p → NumR (lay4 w u k (.int .i64 d.k) (.int .i64 d.a) (.int .i64 d.b) (.slice (some ⟨q, 0, none⟩) d.xs.length d.xs.length)) lo (lay4 w u k (.int .i64 d.k) (.int .i64 d.a) (.int .i64 d.b) (.slice (some ⟨q, 0, none⟩) d.xs.length d.xs.length)).heap.size p := by
    rintro p ⟨a, c, e, he | ⟨ha, hq', hr⟩⟩
    · exact ⟨a, c, e, .inl he⟩
    · refine ⟨a, c, e, .inr ⟨ha, Nat.lt_of_lt_of_le hq' hg.size, hr.kept hg (.inr ?_)⟩⟩
      exact own_types ho hr u rfl
  have hnew : NumR w lo w.heap.size pn := by rw [hpn]; exact ⟨_, _, rfl, .inr ⟨rfl, (hf.lt q rfl).2, own_mono hf hlo⟩⟩
  refine ⟨P ++ [pn], ?_, by simp [e2], o4, fun p hpp => ?_, ?_⟩
  · rw [List.map_append, e1, List.take_succ_eq_append_getElem hL, hd', hpn]; rfl
  · rcases List.mem_append.1 hpp with h1 | h1
    · exact keepN p (hn p h1)
    · simp at h1; subst h1; exact keepN _ hnew
  · refine List.pairwise_append.2 ⟨hp, List.pairwise_singleton _ _, fun p1 hp1 p2 hp2 => ?_⟩
    simp at hp2; subst hp2
    obtain ⟨a, c, e, he | ⟨ha, hq1, hr⟩⟩ := hn0 p1 hp1
    · exact .inl he
    · exact .inr (.inr (by rw [hpn]; show p1.q ≠ q; omega))
theorem LaidK.done {w : World} {lo u n : Nat} {L : List Nd} (h : LaidK w lo u n n L) (hn : n = L.length) : OwnSh w lo w.heap.size (.slice (some ⟨u, 0, none⟩) n n) L := by
  obtain ⟨P, e1, e2, ho, hnn, hp⟩ := h
  rw [Nat.sub_self, List.replicate_zero, List.append_nil] at ho
  refine ⟨P, by rw [e1, hn, List.take_length], by rw [e2]; exact ho, fun g hg => ?_, hnn, hp, Nat.le_refl _⟩
  exact (ho.lt g hg).2
set_option maxHeartbeats 1000000 in
theorem toNodeS_own (v : Value) (L : List Nd) (w : World) (h : NodesIn w v L) (hn : tot L ≤ 1048576) :
    Calls Try.prog 58 #[v] w fun e w' => ∃ g, e = .returned (.slice (some ⟨g, 0, none⟩) L.length L.length) ∧ OwnSh w' w.heap.size w'.heap.size (.slice (some ⟨g, 0, none⟩) L.length L.length) L ∧ Below w.heap.size w w' := by
  obtain ⟨i0, hi, hz0, hz1, hz2⟩ := info_parts info_nd
  have hlen : L.length ≤ 1048576 := by unfold tot at hn; omega
  have hb2 : i0.bytes * L.length ≤ 281474976710656 := by rw [hz2]; omega
  have hb3 : L.length ≤ maxLen := by unfold maxLen; omega
  obtain ⟨a, cap, rfl, _⟩ := id h
  have H := Lib.hid h
  have HT := Lib.hid hn
  clear h hn
  go_enter Try.func58, Try.ntmps58
  go_wp2_with (at_make; refine wpList_make_full _ rfl _ _ 24 rfl w.heap.size 78 i0 _ 4 Try.underlying24 hi hz0 hz1 .i64 .i64 _ _ L.length rfl rfl rfl rfl hb2 hb3 (Nat.le_refl _) ?_; intro w1 hown hgrow)
  have hbl := (bl_refl w).grown hgrow (Nat.le_refl _) (fun k hk => by cases hk)
  rw [flatP_made] at hown
  have hrow : LaidK w1 w.heap.size w.heap.size L.length 0 L := ⟨[], rfl, rfl, by simpa using hown, fun p hp => by simp at hp, .nil⟩
  clear hgrow hown
  go_loopw [4] (fun i wr => ∃ k : Nat, k ≤ L.length ∧ i = .int .i64 k ∧ LaidK wr w.heap.size w.heap.size L.length k L ∧ Below w.heap.size w wr) (fun i _ => L.length - (intOf i).toNat)
  case atStart => exact ⟨0, Nat.zero_le _, rfl, hrow, hbl⟩
  case round =>
    clear hrow hbl
    obtain ⟨k, hk, rfl, hrow, hbw⟩ := hrel
    by_cases hlt : k < L.length
    · obtain ⟨g, o, rfl, hg, hc0, hc1, hc2, nv, hc3, hF⟩ := (H.out.keep hbw).at_ hlt
      obtain ⟨d, hd⟩ : ∃ d, L.getD k default = d := ⟨_, rfl⟩
      rw [hd] at hc0 hc1 hc2 hF
      have hdx : d.xs.length ≤ 1048576 := by
        have e : L[k] = d := by rw [← hd]; simp [hlt]
        have := sumX_mem (L := L) (d := d) (by rw [← e]; exact List.getElem_mem hlt)
        have := HT.out
        unfold tot at this; omega
      have HC := Lib.hid (toNode_own d.k d.a d.b nv d.xs wr hF hdx)
      have Hd := Lib.hid hd
      have HR := Lib.hid hrow
      have hsz := hbw.size
      clear hd hF hrow
      go_wp2_with (go_at_call 87; refine (Calls.mono (by exact HC.out) ?_); rintro e w2 ⟨q, rfl, hq, hF2, hb2⟩; have hrow2 := HR.out.keep hb2; have p0 := hrow2.place (k * 4) (by omega) hk; have p1 := hrow2.place (k * 4 + 1) (by omega) hk; have p2 := hrow2.place (k * 4 + 2) (by omega) hk; have p3 := hrow2.place (k * 4 + 3) (by omega) hk; obtain ⟨⟨u0, d0⟩, f0⟩ := p0; obtain ⟨⟨u1, d1⟩, f1⟩ := p1; obtain ⟨⟨u2, d2⟩, f2⟩ := p2; obtain ⟨⟨u3, d3⟩, f3⟩ := p3)
      go_roundw
      case rel => exact ⟨k + 1, by omega, by go_num, HR.out.store hb2 hlt hlt Hd.out hq hF2 hsz, bl_set (bl_set (bl_set (bl_set (bl_call hbw hb2) (Nat.le_refl _) _) (Nat.le_refl _) _) (Nat.le_refl _) _) (Nat.le_refl _) _⟩
      case measure => simp [intOf]; omega
    · obtain rfl : k = L.length := by omega
      have hD := hrow.done rfl
      clear hrow
      go_wp2
      go_ret
      exact ⟨_, rfl, hD, hbw⟩
theorem OwnSh.low {w : World} {lo hi : Nat} {v : Value} {L : List Nd} (h : OwnSh w lo hi v L) {p : Addr} (hp : p.block < lo) (u : Value) : OwnSh (w.setCell p u) lo hi v L := by
  obtain ⟨P, e, hP⟩ := h
  exact ⟨P, e, hP.kept (by simp [World.setCell]) (fun k hk _ => Below.heap_setCell w p u k (by omega))⟩
set_option maxHeartbeats 1000000 in
theorem toShape_own (v : Value) (L : List Nd) (w : World) (h : NodesIn w v L) (hn : tot L ≤ 1048576) :
    Calls Try.prog 24 #[.agg #[v]] w fun e w' => ∃ g, e = .returned (.agg #[.slice (some ⟨g, 0, none⟩) L.length L.length]) ∧ OwnSh w' w.heap.size w'.heap.size (.slice (some ⟨g, 0, none⟩) L.length L.length) L ∧ Below w.heap.size w w' := by
  obtain ⟨av, cv, rfl, _⟩ := id h
  go_enter Try.func24, Try.ntmps24
  go_wp2_with fail
  have hb0 : Below w.heap.size w (((w.alloc (.cells #[.slice av L.length cv] 38)).alloc (.cells #[.slice none 0 0] 26)).alloc (.cells #[.slice none 0 0] 26)) := bl_alloc (bl_alloc (bl_alloc (bl_refl w) _) _) _
  refine (toNodeS_own _ L _ (h.keep hb0) hn).mono ?_
  rintro e w1 ⟨gu, rfl, hu, hb1⟩
  have hsz := hb1.size
  simp at hsz
  have hO : Bl1 w1 (w.heap.size + 1 + 1) (.slice none 0 0) := Bl1.below (new3 _ _ _ _) hb1 (by simp)
  have hR : Bl1 w1 (w.heap.size + 1) (.slice none 0 0) := Bl1.below (new2 _ _ _ _) hb1 (by simp)
  have o0 := hO.cell
  have r0 := hR.cell
  have fo := hO.frozen
  have fr := hR.frozen
  go_wp2_with fail
  refine bodyPost_ret (results_cell_row rfl _ _ (w.heap.size + 1) 26 _ (0, 0) _ rfl (Bl1.set (hR.far (p := ⟨w.heap.size + 1 + 1, 0, none⟩) (by simp) _) _) Try.underlying26 rfl (by kernel_rfl)) rfl ?_
  refine ⟨_, rfl, ?_, ?_⟩
  · exact ((hu.low (by simp) _).low (by simp) _).mono (by simp; omega) (by simp [World.setCell]) (Nat.le_refl _)
  · have hb2 := bl_call hb0 hb1
    exact bl_set (bl_set hb2 (by show _ ≤ w.heap.size + 1 + 1; omega) _) (by show _ ≤ w.heap.size + 1; omega) _
end Go.Proofs.Ytpbccoobkmahlaa
