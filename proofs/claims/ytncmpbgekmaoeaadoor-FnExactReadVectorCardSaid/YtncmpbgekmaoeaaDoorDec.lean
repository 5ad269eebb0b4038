/- Decimal numerals. No conditions but bounds. -/
import Derived.Test.YtncmpbgekmaoeaaDoorText
import Derived.Lib.ItoaNum
import Derived.Lib.LaidTab
import Derived.Lib.AppendIntMem
import Derived.Lib.Hide
namespace Go.Proofs.YtncmpbgekmaoeaaDoor
open Go.Fl Go.RowKit

def Tab (w : World) : Prop := Lib.TabIs Tryd.prog w "internal/strconv.uint64pow10" .u64 Lib.pow10Tab
theorem gPow : Tryd.prog.globalNamed "internal/strconv.uint64pow10" = some 2 := by kernel_rfl
/-- What a listed variable holds stays where memory is only new. -/
theorem var_stays {P : Program} {n : String} {g : Nat} {cs : Array Value} {w w' : World} (hg : P.globalNamed n = some g) (h : w.var? P n = some cs) (hb : Below w.heap.size w w') : w'.var? P n = some cs := by
  unfold World.var? at h ⊢
  rw [hg] at h ⊢
  simp only [Option.bind_some] at h ⊢
  have hlt : g < w.heap.size := by
    rcases Nat.lt_or_ge g w.heap.size with h' | h'
    · exact h'
    · rw [Array.getElem?_eq_none h'] at h; cases h
  rw [hb.block g hlt]
  exact h
theorem Tab.below {w w' : World} (h : Tab w) (hb : Below w.heap.size w w') : Tab w' := var_stays gPow h hb

theorem i64_bounds {a : Int} (h : (Lit.int IntKind.i64 a).wf = true) : -9223372036854775808 ≤ a ∧ a ≤ 9223372036854775807 := by
  simpa [Lit.wf, IntKind.min, IntKind.max, IntKind.signed, IntKind.bits] using h
theorem nDigits_le : ∀ (k u : Nat), u < 10 ^ (k + 1) → Lib.nDigits u ≤ k + 1
  | 0, u, h => by rw [Lib.nDigits_small (by simpa using h)]; omega
  | k + 1, u, h => by
    by_cases hs : u < 10
    · rw [Lib.nDigits_small hs]; omega
    · rw [Lib.nDigits_big hs]
      have := nDigits_le k (u / 10) (by rw [Nat.pow_succ] at h; omega)
      omega
theorem dec_len {u : Nat} (h : u ≤ 9223372036854775808) : (Lib.decDigits u).length ≤ 19 := by
  rw [Lib.decDigits_length]
  exact nDigits_le 18 u (by omega)
theorem dec_pos (u : Nat) : 1 ≤ (Lib.decDigits u).length := by
  rw [Lib.decDigits_length]; exact Lib.nDigits_pos u
/-- What is still to be put ahead. -/
def ahead (u : Nat) : List UInt8 := if u = 0 then [] else Lib.decDigits u
def digB (u : Nat) : UInt8 := UInt8.ofNat (48 + u % 10)
theorem dec_step (u : Nat) : Lib.decDigits u = ahead (u / 10) ++ [digB u] := by
  unfold ahead digB
  by_cases h : u < 10
  · rw [Lib.decDigits_one h, if_pos (by omega), Nat.mod_eq_of_lt h]; rfl
  · rw [if_neg (by omega)]
    conv => lhs; rw [Lib.decDigits, dif_neg h]
theorem ahead_step {u : Nat} (h : u ≠ 0) : ahead u = ahead (u / 10) ++ [digB u] := by
  conv => lhs; rw [ahead, if_neg h]
  exact dec_step u
theorem digB_val (u : Nat) : ((digB u).toNat : Int) = 48 + ((u % 10 : Nat) : Int) := by
  unfold digB
  rw [UInt8.toNat_ofNat', Nat.mod_eq_of_lt (by omega)]
  omega
theorem tmod_pos {r : Int} (h : 0 ≤ r) : r.tmod 10 = ((r.natAbs % 10 : Nat) : Int) := by
  obtain ⟨m, rfl⟩ : ∃ m : Nat, r = m := ⟨r.toNat, by omega⟩
  rw [Int.natAbs_natCast]; rfl
theorem tmod_neg {r : Int} (h : r < 0) : r.tmod 10 = -((r.natAbs % 10 : Nat) : Int) := by
  obtain ⟨m, rfl⟩ : ∃ m : Nat, r = -m := ⟨(-r).toNat, by omega⟩
  rw [Int.natAbs_neg, Int.natAbs_natCast, Int.neg_tmod]; rfl
theorem tdiv_abs (r : Int) : (r.tdiv 10).natAbs = r.natAbs / 10 := by
  rw [Int.natAbs_tdiv]; rfl

/-- The digits so far (ds), the rest (r), of the number n. -/
def DecSt (n r : Int) (ds : List UInt8) : Prop := (ds = [] ∧ r = n) ∨ (1 ≤ ds.length ∧ Lib.decDigits n.natAbs = ahead r.natAbs ++ ds)
theorem DecSt.step {n r : Int} {ds : List UInt8} (h : DecSt n r ds) (hgo : ds.length = 0 ∨ r ≠ 0) : DecSt n (r.tdiv 10) (digB r.natAbs :: ds) := by
  refine .inr ⟨by simp, ?_⟩
  rw [tdiv_abs]
  rcases h with ⟨rfl, rfl⟩ | ⟨h1, h2⟩
  · exact dec_step _
  · rw [h2, ahead_step (by rcases hgo with h | h <;> omega)]; simp
theorem DecSt.len {n r : Int} {ds : List UInt8} (h : DecSt n r ds) (hn : n.natAbs ≤ 9223372036854775808) : ds.length ≤ 19 := by
  rcases h with ⟨rfl, _⟩ | ⟨_, h2⟩
  · simp
  · have := dec_len hn
    rw [h2] at this
    simp at this; omega
theorem DecSt.done {n : Int} {ds : List UInt8} (h : DecSt n 0 ds) (hp : 1 ≤ ds.length) : ds = Lib.decDigits n.natAbs := by
  rcases h with ⟨rfl, _⟩ | ⟨_, h2⟩
  · simp at hp
  · rw [h2]; simp [ahead]
theorem info_u8 : (Tryd.prog.info? 5).map (fun i => (i.zero, i.size, i.bytes)) = some (some (.int .u8 0), 1, 1) := by kernel_rfl

/-- A slice whose cells are these bytes, of new memory. -/
def Src (w : World) (B : Nat) (v : Value) (l : List UInt8) : Prop := ∃ g c, v = .slice (some ⟨g, 0, none⟩) l.length c ∧ g < B ∧ ∀ j u, (l.map byteV)[j]? = some u → w.cell? ((⟨g, 0, none⟩ : Addr).add j) = some u
theorem Src.of_own {w : World} {base : Nat} {e : TypeId} {v : Value} {l : List UInt8} {n : Nat} (h : w.ownsRow base e 1 v n (l.map byteV)) (hn : n = l.length) (h0 : 1 ≤ n) : Src w w.heap.size v l := by
  subst hn
  obtain ⟨g, cap, rfl, _, hlt⟩ := h.form h0
  exact ⟨g, cap, rfl, hlt, h.cells (g := g) rfl⟩
theorem Src.nil (w : World) (g c B : Nat) (h : g < B) : Src w B (.slice (some ⟨g, 0, none⟩) 0 c) [] := ⟨g, c, rfl, h, by simp⟩
theorem Src.below {w w' : World} {B : Nat} {v : Value} {l : List UInt8} (h : Src w B v l) (hb : Below B w w') : Src w' B v l := by
  obtain ⟨g, c, rfl, hg, hc⟩ := h
  exact ⟨g, c, rfl, hg, fun j u hu => (hb.cell (by unfold Addr.add; split <;> exact hg)).trans (hc j u hu)⟩

def emptyOf : Value → Nat
  | .slice _ 0 _ => 1
  | _ => 0
theorem dig_pos {r : Int} (h : 0 ≤ r) : 48 + r % 10 = ((digB r.natAbs).toNat : Int) := by
  rw [digB_val]; omega
theorem dig_neg {r : Int} (h : r < 0) : 48 + -r.tmod 10 = ((digB r.natAbs).toNat : Int) := by
  rw [digB_val, tmod_neg h]; omega
theorem Src.one {w : World} {t : TypeId} {d : Int} {b : UInt8} (h : d = (b.toNat : Int)) : Src (w.alloc (.cells #[.int .u8 d] t)) (w.alloc (.cells #[.int .u8 d] t)).heap.size (.slice (some ⟨w.heap.size, 0, none⟩) 1 1) [b] := by
  subst h
  exact ⟨w.heap.size, 1, rfl, by show w.heap.size < (w.heap.push _).size; simp, new1 w _ _⟩
theorem Src.cons {w2 : World} {base : Nat} {e : TypeId} {v' : Value} {ds : List UInt8} {d : Int} {b : UInt8} (h : w2.ownsRow base e 1 v' (1 + ds.length) ([.int .u8 d] ++ ds.map byteV)) (hd : d = (b.toNat : Int)) : Src w2 w2.heap.size v' (b :: ds) := by
  subst hd
  exact Src.of_own h (by simp; omega) (by omega)
theorem Src.nonempty {w2 : World} {B : Nat} {v' : Value} {ds : List UInt8} {b : UInt8} (h : Src w2 B v' (b :: ds)) : emptyOf v' = 0 := by
  obtain ⟨g, c, rfl, _⟩ := h
  rfl
theorem conv_src {w : World} {g c : Nat} {l : List UInt8} (hc : ∀ j u, (l.map byteV)[j]? = some u → w.cell? ((⟨g, 0, none⟩ : Addr).add j) = some u) :
    (convert 64 9 (.slice (some ⟨g, 0, none⟩) l.length c)).run Tryd.prog w = .ok (.string ⟨l.toArray⟩) w :=
  run_convert_bytes_back w _ _ 5 ⟨g, 0, none⟩ c l Tryd.underlying64 Tryd.underlying5 Tryd.underlying9 fun j hj => hc j _ (by rw [List.getElem?_map, List.getElem?_eq_getElem hj]; rfl)
theorem ret_dec {a b : List UInt8} (h : a = b) : Ending.returned (.string ⟨a.toArray⟩) = .returned (.string ⟨b.toArray⟩) := by rw [h]
theorem add_lt {g B j : Nat} (h : g < B) : ((⟨g, 0, none⟩ : Addr).add j).block < B := by
  unfold Addr.add; split <;> exact h
theorem bytes_one {l : List UInt8} : ∀ u ∈ l.map byteV, u.oneCell' = true := by
  intro u hu
  obtain ⟨b, _, rfl⟩ := List.mem_map.1 hu
  rfl
set_option maxHeartbeats 1000000 in
set_option maxRecDepth 20000 in
theorem l01Dec_any (n : Int) (h0 : -9223372036854775808 ≤ n) (h1 : n ≤ 9223372036854775807) (w : World) :
    Calls Tryd.prog 34 #[.int .i64 n] w fun e w' => e = .returned (.string ⟨(Lib.itoa n).toArray⟩) ∧ Below w.heap.size w w' := by
  obtain ⟨i0, hi, hz0, hz1, hz2⟩ := info_parts info_u8
  have hna : n.natAbs ≤ 9223372036854775808 := by omega
  go_enter Tryd.func34, Tryd.ntmps34
  go_wp2_with fail
  have hw0 : Below w.heap.size w (w.alloc (.cells #[] 5)) := bl_alloc (bl_refl w) _
  go_loopw [3, 4] (fun v rs wr => ∃ (ds : List UInt8) (r : Int) (vv : Value), vv = v ∧ rs = .int .i64 r ∧ RowKit.Hid (DecSt n r ds) ∧ -9223372036854775808 ≤ r ∧ r ≤ 9223372036854775807 ∧ Src wr wr.heap.size vv ds ∧ Below w.heap.size w wr) (fun v r _ => (intOf r).natAbs + emptyOf v)
  case atStart => exact ⟨[], n, _, rfl, rfl, Lib.hid (.inl ⟨rfl, rfl⟩), h0, h1, Src.nil _ _ _ _ (by show w.heap.size < (w.heap.push _).size; simp), hw0⟩
  case round =>
    clear hw0
    obtain ⟨ds, r, vv, rfl, rfl, hst, hr0, hr1, hsrc, hbw⟩ := hrel
    obtain ⟨g, c, rfl, hg, hcells⟩ := hsrc
    have hdl := hst.out.len hna
    by_cases hl : ds.length = 0
    · have hz : ((ds.length : Int) == 0) = true := by rw [hl]; rfl
      obtain rfl : ds = [] := List.eq_nil_of_length_eq_zero hl
      have hst2 := hst.out.step (.inl rfl)
      by_cases hneg : r < 0
      · have hD := Lib.hid (dig_neg hneg)
        have hA := tdiv_abs r
        have hm1 : r.tmod 10 ≤ 0 := by rw [tmod_neg hneg]; omega
        have hm2 : -9 ≤ r.tmod 10 := by rw [tmod_neg hneg]; omega
        cases hT : decide (r.tmod 10 < 0)
        · have h0 : r.tmod 10 = 0 := by have := of_decide_eq_false hT; omega
          have hD2 := Lib.hid (show 48 + r.tmod 10 = ((digB r.natAbs).toNat : Int) by rw [← hD.out, h0]; rfl)
          clear h0
          go_wp2_with fail
          exact ⟨⟨[digB r.natAbs], r.tdiv 10, _, rfl, rfl, Lib.hid hst2, by omega, by omega, Src.one hD2.out, bl_alloc hbw _⟩, by show (r.tdiv 10).natAbs + 0 < r.natAbs + 1; omega⟩
        · go_wp2_with fail
          exact ⟨⟨[digB r.natAbs], r.tdiv 10, _, rfl, rfl, Lib.hid hst2, by omega, by omega, Src.one hD.out, bl_alloc hbw _⟩, by show (r.tdiv 10).natAbs + 0 < r.natAbs + 1; omega⟩
      · have hD := Lib.hid (dig_pos (show 0 ≤ r by omega))
        have hm1 : 0 ≤ r.tmod 10 := by rw [tmod_pos (by omega)]; omega
        have hm2 : r.tmod 10 ≤ 9 := by rw [tmod_pos (by omega)]; omega
        have hT : decide (r.tmod 10 < 0) = false := decide_eq_false (by omega)
        go_wp2_with fail
        exact ⟨⟨[digB r.natAbs], r / 10, _, rfl, rfl, Lib.hid (by rw [← Int.tdiv_eq_ediv_of_nonneg (by omega)]; exact hst2), by omega, by omega, Src.one hD.out, bl_alloc hbw _⟩, by show (r / 10).natAbs + 0 < r.natAbs + 1; omega⟩
    · by_cases hr : r = 0
      · subst hr
        have hfin := Lib.hid (hst.out.done (by omega))
        have hz : ((ds.length : Int) == 0) = false := by simp; intro e; apply hl; rw [e]; rfl
        clear hst
        by_cases hn : n < 0
        · have HI := Lib.hid (show 45 :: ds = Lib.itoa n by rw [hfin.out]; unfold Lib.itoa; rw [if_pos hn])
          have hown0 : (wr.alloc (.cells #[.int .u8 45] 5)).ownsRow wr.heap.size 5 1 (.slice (some ⟨wr.heap.size, 0, none⟩) 1 1) 1 [.int .u8 45] := World.ownsRow_lit wr #[_] 1 (Nat.le_refl _) (by unfold maxLen; omega) rfl
          go_wp2_with (at_builtin; go_loud (refine wpList_append_own _ rfl (.tmp 31) (.tmp 32) 64 rfl wr.heap.size 5 i0 (.int .u8 0) 1 1 Tryd.underlying64 hi hz0 hz1 hz2 rfl (by decide) _ 1 _ rfl hown0 ⟨g, 0, none⟩ ds.length c (ds.map byteV) rfl (by simp) (fun j u hu => ((bl_alloc (bl_refl wr) _).cell (add_lt hg)).trans (hcells j u hu)) bytes_one (by unfold maxLen; omega) (by omega) (bl_alloc (bl_refl wr) _).size ?_; intro v' w2 hown' hgrow hnil); go_loud (have hb2 := grown_below (bl_alloc hbw _) hown0 hbw.size hgrow; have hs2 := Src.cons (b := 45) hown' rfl; clear hown'); go_loud (obtain ⟨g2, c2, rfl, -, hc2⟩ := hs2); go_loud (have hcv := conv_src (w := w2) (l := 45 :: ds) (c := c2) hc2; rw [List.length_cons] at hcv ⊢; generalize hQ : (45 :: ds : List UInt8) = qs at hcv HI))
          go_ret
          exact ⟨ret_dec HI.out, hb2⟩
        · have HI := Lib.hid (show ds = Lib.itoa n by rw [hfin.out]; unfold Lib.itoa; rw [if_neg hn]; congr 1; omega)
          have hcv := conv_src hcells (c := c)
          go_wp2_with fail
          go_ret
          exact ⟨ret_dec HI.out, hbw⟩
      · have hst2 := hst.out.step (.inr hr)
        have hz : ((ds.length : Int) == 0) = false := by simp; intro e; apply hl; rw [e]; rfl
        have hzr : (r != 0) = true := by simpa using hr
        have hA := tdiv_abs r
        by_cases hneg : r < 0
        · have hD := Lib.hid (dig_neg hneg)
          have hm1 : r.tmod 10 ≤ 0 := by rw [tmod_neg hneg]; omega
          have hm2 : -9 ≤ r.tmod 10 := by rw [tmod_neg hneg]; omega
          cases hT : decide (r.tmod 10 < 0)
          · have h0 : r.tmod 10 = 0 := by have := of_decide_eq_false hT; omega
            have hD2 := Lib.hid (show 48 + r.tmod 10 = ((digB r.natAbs).toNat : Int) by rw [← hD.out, h0]; rfl)
            clear h0
            have hown0 : (wr.alloc (.cells #[.int .u8 (48 + r.tmod 10)] 5)).ownsRow wr.heap.size 5 1 (.slice (some ⟨wr.heap.size, 0, none⟩) 1 1) 1 [.int .u8 (48 + r.tmod 10)] := World.ownsRow_lit wr #[_] 1 (Nat.le_refl _) (by unfold maxLen; omega) rfl
            go_wp2_with (at_builtin; refine wpList_append_own _ rfl (.tmp 24) (.tmp 25) 64 rfl wr.heap.size 5 i0 (.int .u8 0) 1 1 Tryd.underlying64 hi hz0 hz1 hz2 rfl (by decide) _ 1 _ rfl hown0 ⟨g, 0, none⟩ ds.length c (ds.map byteV) rfl (by simp) (fun j u hu => ((bl_alloc (bl_refl wr) _).cell (add_lt hg)).trans (hcells j u hu)) bytes_one (by unfold maxLen; omega) (by omega) (bl_alloc (bl_refl wr) _).size ?_; intro v' w2 hown' hgrow hnil)
            have hb2 := grown_below (bl_alloc hbw _) hown0 hbw.size hgrow
            have hs2 := Src.cons hown' hD2.out
            exact ⟨⟨digB r.natAbs :: ds, r.tdiv 10, v', rfl, rfl, Lib.hid hst2, by omega, by omega, hs2, hb2⟩, by show (r.tdiv 10).natAbs + emptyOf v' < r.natAbs + emptyOf (.slice _ ds.length _); rw [hs2.nonempty]; omega⟩
          · have hown0 : (wr.alloc (.cells #[.int .u8 (48 + -r.tmod 10)] 5)).ownsRow wr.heap.size 5 1 (.slice (some ⟨wr.heap.size, 0, none⟩) 1 1) 1 [.int .u8 (48 + -r.tmod 10)] := World.ownsRow_lit wr #[_] 1 (Nat.le_refl _) (by unfold maxLen; omega) rfl
            go_wp2_with (at_builtin; refine wpList_append_own _ rfl (.tmp 24) (.tmp 25) 64 rfl wr.heap.size 5 i0 (.int .u8 0) 1 1 Tryd.underlying64 hi hz0 hz1 hz2 rfl (by decide) _ 1 _ rfl hown0 ⟨g, 0, none⟩ ds.length c (ds.map byteV) rfl (by simp) (fun j u hu => ((bl_alloc (bl_refl wr) _).cell (add_lt hg)).trans (hcells j u hu)) bytes_one (by unfold maxLen; omega) (by omega) (bl_alloc (bl_refl wr) _).size ?_; intro v' w2 hown' hgrow hnil)
            have hb2 := grown_below (bl_alloc hbw _) hown0 hbw.size hgrow
            have hs2 := Src.cons hown' hD.out
            exact ⟨⟨digB r.natAbs :: ds, r.tdiv 10, v', rfl, rfl, Lib.hid hst2, by omega, by omega, hs2, hb2⟩, by show (r.tdiv 10).natAbs + emptyOf v' < r.natAbs + emptyOf (.slice _ ds.length _); rw [hs2.nonempty]; omega⟩
        · have hD := Lib.hid (dig_pos (show 0 ≤ r by omega))
          have hm1 : 0 ≤ r.tmod 10 := by rw [tmod_pos (by omega)]; omega
          have hm2 : r.tmod 10 ≤ 9 := by rw [tmod_pos (by omega)]; omega
          have hT : decide (r.tmod 10 < 0) = false := decide_eq_false (by omega)
          have hown0 : (wr.alloc (.cells #[.int .u8 (48 + r % 10)] 5)).ownsRow wr.heap.size 5 1 (.slice (some ⟨wr.heap.size, 0, none⟩) 1 1) 1 [.int .u8 (48 + r % 10)] := World.ownsRow_lit wr #[_] 1 (Nat.le_refl _) (by unfold maxLen; omega) rfl
          go_wp2_with (at_builtin; refine wpList_append_own _ rfl (.tmp 24) (.tmp 25) 64 rfl wr.heap.size 5 i0 (.int .u8 0) 1 1 Tryd.underlying64 hi hz0 hz1 hz2 rfl (by decide) _ 1 _ rfl hown0 ⟨g, 0, none⟩ ds.length c (ds.map byteV) rfl (by simp) (fun j u hu => ((bl_alloc (bl_refl wr) _).cell (add_lt hg)).trans (hcells j u hu)) bytes_one (by unfold maxLen; omega) (by omega) (bl_alloc (bl_refl wr) _).size ?_; intro v' w2 hown' hgrow hnil)
          have hb2 := grown_below (bl_alloc hbw _) hown0 hbw.size hgrow
          have hs2 := Src.cons hown' hD.out
          exact ⟨⟨digB r.natAbs :: ds, r.tdiv 10, v', rfl, rfl, Lib.hid hst2, by omega, by omega, hs2, hb2⟩, by show (r.tdiv 10).natAbs + emptyOf v' < r.natAbs + emptyOf (.slice _ ds.length _); rw [hs2.nonempty]; omega⟩
theorem FormatInt_any (n : Int) (h0 : -9223372036854775808 ≤ n) (h1 : n ≤ 9223372036854775807) (w : World) (ht : Tab w) :
    Calls Tryd.prog 35 #[.int .i64 n, .int .i64 10] w fun e w' => e = .returned (.string ⟨(Lib.itoa n).toArray⟩) ∧ Below w.heap.size w w' := by
  refine (Tryd.strconv_FormatInt_10 n h0 h1 w ht).mono ?_
  rintro e w' ⟨rfl, k, os, rfl⟩
  exact ⟨rfl, Go.Lib.below_grow _ w (Nat.le_refl _) k os⟩
def decS (n : Int) : ByteArray := ⟨(Lib.itoa n).toArray⟩
theorem Decimal_any (n : Int) (h0 : -9223372036854775808 ≤ n) (h1 : n ≤ 9223372036854775807) (w : World) (ht : Tab w) :
    Calls Tryd.prog 17 #[.int .i64 n] w fun e w' => e = .returned (.string (decS n)) ∧ Below w.heap.size w w' := by
  go_enter Tryd.func17, Tryd.ntmps17
  go_wp2_with (go_at_call 35; refine (FormatInt_any n h0 h1 _ ht).mono ?_; rintro e w1 ⟨rfl, hb⟩)
  go_ret
  exact ⟨rfl, hb⟩
theorem spec_Decimal_any (n : Int) (h0 : -9223372036854775808 ≤ n) (h1 : n ≤ 9223372036854775807) (w : World) :
    Calls Tryd.prog 16 #[.int .i64 n] w fun e w' => e = .returned (.string (decS n)) ∧ Below w.heap.size w w' := by
  go_enter Tryd.func16, Tryd.ntmps16
  go_wp2_with (go_at_call 34; refine (l01Dec_any n h0 h1 _).mono ?_; rintro e w1 ⟨rfl, hb⟩)
  go_ret
  exact ⟨rfl, hb⟩
end Go.Proofs.YtncmpbgekmaoeaaDoor
