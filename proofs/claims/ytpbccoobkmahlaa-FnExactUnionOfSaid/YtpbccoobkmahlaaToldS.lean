/- A shape cloned by the program; a shape told if it is right. No conditions but bounds. -/
import Derived.Test.YtpbccoobkmahlaaTold
namespace Go.Proofs.Ytpbccoobkmahlaa
open Go.Fl Go.RowKit

theorem Bl1.grown {w w' : World} {g : Nat} {x : Value} {row : Option Nat} (h : Bl1 w g x) (hg : w.grownBy w' row) (hr : ∀ r, row = some r → g ≠ r) : Bl1 w' g x := by
  have hlt : g < w.heap.size := by
    rcases Nat.lt_or_ge g w.heap.size with h' | h'
    · exact h'
    · unfold Bl1 at h; rw [Array.getElem?_eq_none h'] at h; cases h
  exact (hg.block g hlt (fun e => hr g e.symm rfl)).trans h
theorem Bl1.keep {w w' : World} {g : Nat} {x : Value} (h : Bl1 w g x) (hb : Below w.heap.size w w') : Bl1 w' g x := by
  have hlt : g < w.heap.size := by
    rcases Nat.lt_or_ge g w.heap.size with h' | h'
    · exact h'
    · unfold Bl1 at h; rw [Array.getElem?_eq_none h'] at h; cases h
  exact (hb.block g hlt).trans h
theorem Bl1.new (w : World) (x : Value) : Bl1 (w.alloc (.cells #[x] 26)) w.heap.size x := heap_alloc_new w _
theorem OwnP.keep {w w' : World} {lo hi : Nat} {v : Value} {P : List PNd} (h : OwnP w lo hi v P) (hb : Below w.heap.size w w') : OwnP w' lo hi v P :=
  h.kept hb.size (fun k _ hk => hb.block k (Nat.lt_of_lt_of_le hk h.2.2.2.2))
theorem OwnP.low {w : World} {lo hi : Nat} {v : Value} {P : List PNd} (h : OwnP w lo hi v P) {p : Addr} (hp : p.block < lo) (u : Value) : OwnP (w.setCell p u) lo hi v P :=
  h.kept (by simp [World.setCell]) (fun k hk _ => Below.heap_setCell _ _ _ _ (by omega))
theorem news4 {w : World} {B : Nat} {a b c d : Value} {t : TypeId} (h : w.heap[B]? = some (.cells #[a, b, c, d] t (0, 0))) : ∀ (j : Nat) (u : Value), [a, b, c, d][j]? = some u → w.cell? ((⟨B, 0, none⟩ : Addr).add j) = some u :=
  World.news_of_block h
/-- What a gathering of nodes leaves in memory. -/
def Gath (w : World) (lo : Nat) (v : Value) (M : List Nd) : Prop := ∃ P : List PNd, P.map (·.d) = M ∧ OwnP w lo w.heap.size v P
theorem Gath.own {w : World} {lo : Nat} {v : Value} {M : List Nd} (h : Gath w lo v M) : OwnSh w lo w.heap.size v M := h
theorem Gath.low {w : World} {lo : Nat} {v : Value} {M : List Nd} (h : Gath w lo v M) {p : Addr} (hp : p.block < lo) (u : Value) : Gath (w.setCell p u) lo v M := by
  obtain ⟨P, e, hP⟩ := h
  exact ⟨P, e, by have := hP.low hp u; simpa [World.setCell] using this⟩
theorem Gath.form {w : World} {lo : Nat} {v : Value} {M : List Nd} (h : Gath w lo v M) : ∃ a c, v = .slice a M.length c := by
  obtain ⟨P, rfl, hP⟩ := h
  obtain ⟨a, c, e⟩ := hP.len
  exact ⟨a, c, by rw [e, List.length_map]⟩
theorem Gath.block {w : World} {lo : Nat} {v : Value} {M : List Nd} (h : Gath w lo v M) : ∀ g, v.ownBlock = some g → lo ≤ g ∧ g < w.heap.size := by
  obtain ⟨P, _, hP⟩ := h
  exact hP.1.lt
theorem Gath.nil {w : World} {lo : Nat} {v : Value} (h : w.ownsRow lo 78 4 v 0 []) : Gath w lo v [] :=
  ⟨[], rfl, h, fun g hg => (h.lt g hg).2, fun p hp => by simp at hp, .nil, Nat.le_refl _⟩
/-- The row of a gathering, for an append; and what the append leaves. -/
theorem Gath.push {w0 w1 : World} {lo : Nat} {v : Value} {M : List Nd} (h : Gath w0 lo v M) (hb : Below w0.heap.size w0 w1) {d : Nd} {nv : Value} (hN : NewNum w0 w1 nv d.xs) (hlo : lo ≤ w0.heap.size) :
    ∃ xs, w1.ownsRow lo 78 4 v M.length xs ∧ ∀ v' w2, w2.ownsRow lo 78 4 v' (M.length + 1) (xs ++ [.int .i64 d.k, .int .i64 d.a, .int .i64 d.b, nv]) → w1.grownBy w2 v.ownBlock → Gath w2 lo v' (M ++ [d]) := by
  obtain ⟨P, rfl, hP⟩ := h
  obtain ⟨pn, e1, e2, e3, e4⟩ := hN.num hlo
  refine ⟨flatP P, by rw [List.length_map]; exact own_keep hP.1 hb, fun v' w2 ho hg => ⟨P ++ [pn], by simp [e1], ?_⟩⟩
  rw [List.length_map] at ho
  refine hP.push hb e3 e4 (by
    have : fl4 pn = [.int .i64 d.k, .int .i64 d.a, .int .i64 d.b, nv] := by unfold fl4; rw [e1, e2]
    rw [this]; exact ho) hg
set_option maxHeartbeats 8000000 in
set_option maxRecDepth 20000 in
theorem cloneShape_any (v : Value) (L : List Nd) (w : World) (h : NodesIn w v L) (hm : Mod L) : Calls Try.prog 74 #[.agg #[v]] w
    fun e w' => ∃ u, e = .returned (.agg #[u]) ∧ OwnSh w' w.heap.size w'.heap.size u L ∧ Below w.heap.size w w' := by
  obtain ⟨i0, hi, hz0, hz1, hz2⟩ := info_parts info_nd
  obtain ⟨av, cv, rfl, _⟩ := id h
  have H := Lib.hid h
  have HM := Lib.hid hm
  have hlm := hm.1
  clear h hm
  have hb0 := bl_alloc (bl2 w (.cells #[.slice av L.length cv] 26) (.cells #[.slice none 0 0] 26)) (.cells #[.slice none 0 0] 26)
  have hR : Bl1 (((w.alloc (.cells #[.slice av L.length cv] 26)).alloc (.cells #[.slice none 0 0] 26)).alloc (.cells #[.slice none 0 0] 26)) (w.heap.size + 1) (.slice none 0 0) := new2 _ _ _ _
  have hO : Bl1 (((w.alloc (.cells #[.slice av L.length cv] 26)).alloc (.cells #[.slice none 0 0] 26)).alloc (.cells #[.slice none 0 0] 26)) (w.heap.size + 1 + 1) (.slice none 0 0) := new3 _ _ _ _
  have hG : Gath (((w.alloc (.cells #[.slice av L.length cv] 26)).alloc (.cells #[.slice none 0 0] 26)).alloc (.cells #[.slice none 0 0] 26)) (w.heap.size + 1 + 1 + 1) (.slice none 0 0) [] := Gath.nil (World.ownsRow_nil _ _ _ _)
  go_enter Try.func74, Try.ntmps74
  go_wp2_with fail
  go_loopw [10] (fun i wr => ∃ (k : Nat) (v' : Value), k ≤ L.length ∧ i = .int .i64 k ∧ Gath wr (w.heap.size + 1 + 1 + 1) v' (L.take k) ∧ Below w.heap.size w wr ∧ Bl1 wr (w.heap.size + 1) (.slice none 0 0) ∧ Bl1 wr (w.heap.size + 1 + 1) v' ∧ w.heap.size + 1 + 1 + 1 ≤ wr.heap.size) (fun i _ => L.length - (intOf i).toNat)
  case atStart => exact ⟨0, _, Nat.zero_le _, rfl, by simpa using hG, hb0, hR, hO, by simp⟩
  case round =>
    clear hG hb0 hR hO
    obtain ⟨k, v', hk, rfl, hg, hbw, hR, hO, hsz⟩ := hrel
    by_cases hlt : k < L.length
    · obtain ⟨gg, p, rfl, hgl, hNd⟩ := (H.out.keep hbw).at_ hlt
      obtain ⟨d, hd⟩ : ∃ d, at_ L k = d := ⟨_, rfl⟩
      have hNd2 : NdAt wr gg (p + k * 4) d := by rw [← hd]; exact hNd
      have hdx : d.xs.length ≤ 1048576 := by rw [← hd]; exact HM.out.num hlt
      have htk : L.take (k + 1) = L.take k ++ [d] := by rw [List.take_succ_eq_append_getElem hlt, ← hd]; simp [at_, hlt]
      have hlk : (L.take k).length = k := by simp; omega
      obtain ⟨va, vc, hv⟩ := hg.form
      rw [hlk] at hv
      subst hv
      obtain ⟨c0, c1, c2, nv, c3, hF⟩ := hNd2
      obtain ⟨nva, nvc, rfl, _⟩ := id hF
      have hbA := bl1 wr (.cells #[.int .i64 d.k, .int .i64 d.a, .int .i64 d.b, .slice nva d.xs.length nvc] 78)
      have hFA := hF.keep hbA
      have hOA := hO.keep hbA
      have o0 := hOA.cell
      have HC := Lib.hid (fun W hW => cloneNode_any d.k d.a d.b (.slice nva d.xs.length nvc) d.xs W hW hdx)
      have HF := Lib.hid hFA
      have HG := Lib.hid hg
      have HO := Lib.hid hO
      have HR := Lib.hid hR
      have HT := Lib.hid htk
      have HLK := Lib.hid hlk
      clear hNd hd hF hFA hOA hg hO hR htk hlk
      go_wp2_with fail
      go_region_law (first | (refine step_append_lies _ rfl (.tmp 15) (.tmp 18) 24 rfl (w.heap.size + 1 + 1 + 1) 78 i0 _ 4 48 Try.underlying24 hi hz0 hz1 hz2 rfl (by decide) (.slice va k vc) k _ (by simp [Act.eval]) hrow ⟨w2.heap.size, 0, none⟩ 1 1 [.int .i64 d.k, .int .i64 d.a, .int .i64 d.b, .slice na d.xs.length nc] (by simp [Act.eval]) rfl (news4 (heap_alloc_new _ _)) (by simp [Value.oneCell']) (by decide) (by unfold maxLen; omega) (by omega) (by simp; omega) _ rfl ?_; intro g5 c5 w5 hown5 hgrow5 _ _; have hG5 := hpush _ _ hown5 hgrow5; have hO5 := (HO.out.keep hbw2).grown hgrow5 (fun r hr => by have := HG.out.block r hr; omega); have hR5 := (HR.out.keep hbw2).grown hgrow5 (fun r hr => by have := HG.out.block r hr; omega); have hb5 : Below w.heap.size w w5 := (bl_call hbw hbw2).grown hgrow5 (by simp; omega) (fun r hr => by have := HG.out.block r hr; omega); have o5 := hO5.cell; have f5 := hO5.frozen; clear hown5) | (go_simp; go_at_call 93; refine (Calls.mono (by exact HC.out _ HF.out) ?_); rintro e w2 ⟨nv2, rfl, hN, hb2⟩; obtain ⟨na, nc, hnv, _⟩ := id hN; subst hnv; have hbr2 : Below wr.heap.size wr w2 := bl_call (bl_drew hbA) hb2; have hbw2 : Below wr.heap.size wr (w2.alloc (.cells #[.int .i64 d.k, .int .i64 d.a, .int .i64 d.b, .slice na d.xs.length nc] 78)) := bl_alloc hbr2 _; obtain ⟨xs5, hrow, hpush⟩ := HG.out.push hbw2 (d := d) ((hN.keep (bl1 w2 (.cells #[.int .i64 d.k, .int .i64 d.a, .int .i64 d.b, .slice na d.xs.length nc] 78))).base (by simp)) hsz; rw [HLK.out] at hrow hpush; have hz2' := hbr2.size; have hO2 := HO.out.keep hbr2; have o2 := hO2.cell; have o3 := (HO.out.keep hbw2).cell))
      all_goals (go_wp2_with fail; go_roundw)
      all_goals first | exact ⟨k + 1, _, by omega, by go_num, by rw [HT.out]; exact hG5.low (by simp) _, bl_set hb5 (by show _ ≤ w.heap.size + 1 + 1; omega) _, hR5.far (p := ⟨w.heap.size + 1 + 1, 0, none⟩) (by simp) _, hO5.set _, by have := hgrow5.size; simp at this; simp [World.setCell]; omega⟩ | (simp [intOf]; omega)
    · obtain rfl : k = L.length := by omega
      obtain ⟨va, vc, rfl⟩ := hg.form
      have o0 := hO.cell
      have r0 := hR.cell
      have fr := hR.frozen
      have HG := Lib.hid hg
      clear hg
      go_wp2_with fail
      refine bodyPost_ret (results_cell_row rfl _ _ (w.heap.size + 1) 26 _ (0, 0) _ rfl (Bl1.set hR _) Try.underlying26 rfl (by kernel_rfl)) rfl ?_
      have hq := HG.out.low (p := ⟨w.heap.size + 1, 0, none⟩) (by simp) (.slice va (L.take L.length).length vc)
      rw [List.take_length] at hq
      refine ⟨_, rfl, ?_, bl_set hbw (by show _ ≤ w.heap.size + 1; omega) _⟩
      exact OwnSh.mono hq.own (by omega) (Nat.le_refl _) (Nat.le_refl _)
/-- A call's answer that is a shape of its own and whether there is one. -/
def SOut (w : World) (M : List Nd) (b : Bool) : Ending → World → Prop := fun e w' => ∃ u, e = .returned (.tuple #[.agg #[u], .bool b]) ∧ OwnSh w' w.heap.size w'.heap.size u M ∧ Below w.heap.size w w'
def shV (L : List Nd) : List Nd := if valid L = true then L else []
theorem shV_yes {L : List Nd} (h : valid L = true) : shV L = L := by unfold shV; rw [if_pos h]
theorem shV_no {L : List Nd} (h : valid L = false) : shV L = [] := by unfold shV; rw [h]; rfl
theorem results_shape {fn : Func} {p u : Tmp} (h : fn.results = #[.cell p 26, .tmp u]) (tmps : Array Value) (w : World) (g : Nat) (x : Value) (hp : tmps.getD p undef = .pointer (some ⟨g, 0, none⟩)) (hg : Bl1 w g x) :
    (results fn tmps).run Try.prog w = .ok (.tuple #[.agg #[x], tmps.getD u undef]) w := by
  rw [results_cell_tmp h, hp]
  simp [asAddr, run_loadVar_row w g 26 26 #[x] (0, 0) _ hg Try.underlying26 rfl (by kernel_rfl)]
set_option maxHeartbeats 2000000 in
theorem told_any (v : Value) (L : List Nd) (w : World) (h : NodesIn w v L) (hm : Mod L) : Calls Try.prog 52 #[.agg #[v]] w (SOut w (shV L) (valid L)) := by
  have hb0 := bl2 w (.cells #[v] 26) (.cells #[.slice none 0 0] 26)
  have hA : Bl1 ((w.alloc (.cells #[v] 26)).alloc (.cells #[.slice none 0 0] 26)) w.heap.size v := (Below.heap_alloc _ _ _ (by simp)).trans (heap_alloc_new w _)
  have hB : Bl1 ((w.alloc (.cells #[v] 26)).alloc (.cells #[.slice none 0 0] 26)) (w.heap.size + 1) (.slice none 0 0) := by
    have e : w.heap.size + 1 = (w.alloc (.cells #[v] 26)).heap.size := by simp
    rw [e]; exact heap_alloc_new _ _
  obtain ⟨av, cv, rfl, _⟩ := id h
  have H := Lib.hid h
  have HM := Lib.hid hm
  have a0 := hA.cell
  have HA := Lib.hid hA
  have HB := Lib.hid hB
  clear h hm hA hB
  cases hV : valid L
  · have hN := shV_no hV
    rw [hN]
    have HC := Lib.hid (fun W hW => ValidShape_at hV (.slice av L.length cv) W hW HM.out)
    clear hV hN
    go_enter Try.func52, Try.ntmps52
    go_wp2_with (go_at_call 27; refine (Calls.mono (by exact HC.out _ (H.out.keep hb0)) ?_); rintro e w1 ⟨rfl, hb1⟩; have hB1 := HB.out.keep hb1; have r0 := hB1.cell; have fr := hB1.frozen)
    refine bodyPost_ret (results_shape rfl _ _ (w.heap.size + 1) _ rfl (Bl1.set hB1 _)) rfl ?_
    exact ⟨_, rfl, OwnSh.nil _ _ _ (Nat.le_refl _), bl_set (bl_call hb0 hb1) (by show _ ≤ w.heap.size + 1; omega) _⟩
  · have hY := shV_yes hV
    rw [hY]
    have HC := Lib.hid (fun W hW => ValidShape_at hV (.slice av L.length cv) W hW HM.out)
    have HK := Lib.hid (fun W hW => cloneShape_any (.slice av L.length cv) L W hW HM.out)
    clear hV hY
    go_enter Try.func52, Try.ntmps52
    go_wp2_with (first | (go_at_call 27; refine (Calls.mono (by exact HC.out _ (H.out.keep hb0)) ?_); rintro e w1 ⟨rfl, hb1⟩; have hB1 := HB.out.keep hb1; have hA1 := (HA.out.keep hb1).cell; have e1 := bl_call hb0 hb1) | (go_at_call 74; refine (Calls.mono (by exact HK.out _ (H.out.keep e1)) ?_); rintro e w2 ⟨u, rfl, hu, hb2⟩; obtain ⟨ua, uc, hue⟩ := (show ∃ a c, u = .slice a L.length c by obtain ⟨P, eP, hP⟩ := hu; obtain ⟨a, c, ee⟩ := hP.len; exact ⟨a, c, by rw [ee, ← eP, List.length_map]⟩); subst hue; have hB2 := hB1.keep hb2; have r0 := hB2.cell; have fr := hB2.frozen))
    refine bodyPost_ret (results_shape rfl _ _ (w.heap.size + 1) _ rfl (Bl1.set hB2 _)) rfl ?_
    refine ⟨_, rfl, ?_, bl_set (bl_call e1 hb2) (by show _ ≤ w.heap.size + 1; omega) _⟩
    have hs1 : w.heap.size + 1 < w1.heap.size := by have := hb1.size; simp at this; omega
    exact OwnSh.mono (hu.low (p := ⟨w.heap.size + 1, 0, none⟩) (by show w.heap.size + 1 < w1.heap.size; exact hs1) _) (by omega) (by simp [World.setCell]) (Nat.le_refl _)
end Go.Proofs.Ytpbccoobkmahlaa
