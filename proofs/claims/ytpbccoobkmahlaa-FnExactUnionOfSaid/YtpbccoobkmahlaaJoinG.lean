/- The reference's JoinShapes. No conditions but bounds. -/
import Derived.Test.YtpbccoobkmahlaaWrapG
namespace Go.Proofs.Ytpbccoobkmahlaa
open Go.Fl Go.RowKit

/-- The nodes of a shape of which a node of a kind is made of two, and whether there is one. -/
def joinN (k : Int) (A B : List Nd) (xs : List Nat) : List Nd := (A ++ B.map (shN A.length)) ++ [⟨k, (A.length : Int) - 1, (A.length : Int) + (B.length : Int) - 1, xs⟩]
def joinL (k : Int) (A B : List Nd) (xs : List Nat) : List Nd := if valid A = true ∧ valid B = true ∧ kidsK k = 2 then shV (joinN k A B xs) else []
def joinB (k : Int) (A B : List Nd) (xs : List Nat) : Bool := if valid A = true ∧ valid B = true ∧ kidsK k = 2 then valid (joinN k A B xs) else false
theorem join_no {k : Int} {A B : List Nd} {xs : List Nat} (h : ¬ (valid A = true ∧ valid B = true ∧ kidsK k = 2)) : joinL k A B xs = [] ∧ joinB k A B xs = false := by unfold joinL joinB; rw [if_neg h, if_neg h]; exact ⟨rfl, rfl⟩
theorem join_yes {k : Int} {A B : List Nd} {xs : List Nat} (h : valid A = true) (h' : valid B = true) (hk : kidsK k = 2) : joinL k A B xs = shV (joinN k A B xs) ∧ joinB k A B xs = valid (joinN k A B xs) := by unfold joinL joinB; rw [if_pos ⟨h, h', hk⟩, if_pos ⟨h, h', hk⟩]; exact ⟨rfl, rfl⟩
theorem joinN_len (k : Int) (A B : List Nd) (xs : List Nat) : (joinN k A B xs).length = A.length + B.length + 1 := by simp [joinN]; omega
theorem join_long {k : Int} {A B : List Nd} {xs : List Nat} (h : 16 ≤ A.length + B.length) : joinL k A B xs = [] ∧ joinB k A B xs = false := by
  have hv : valid (joinN k A B xs) = false := valid_len (by rw [joinN_len]; omega)
  unfold joinL joinB
  split
  · exact ⟨shV_no hv, hv⟩
  · exact ⟨rfl, rfl⟩
theorem join_small (k : Int) (A B : List Nd) (xs : List Nat) : (joinL k A B xs).length ≤ 16 ∧ sumX (joinL k A B xs) ≤ 64 := by
  unfold joinL
  split
  · exact shV_small _
  · exact ⟨by simp, by simp [sumX]⟩
theorem mod_sh {B : List Nd} {n : Nat} (h : Mod B) : Mod (B.map (shN n)) := ⟨by rw [List.length_map]; exact h.1, fun d hd => by
  obtain ⟨e, he, rfl⟩ := List.mem_map.1 hd
  exact h.2 e he⟩
theorem mod_app {A B : List Nd} (h : Mod A) (h' : Mod B) (hl : A.length + B.length ≤ 64) : Mod (A ++ B) := ⟨by simp; omega, fun d hd => by
  rcases List.mem_append.1 hd with hd | hd
  · exact h.2 d hd
  · exact h'.2 d hd⟩
theorem mod_join {k : Int} {A B : List Nd} {xs : List Nat} (hA : valid A = true) (hB : valid B = true) (hn : xs.length ≤ 1048576) : Mod (joinN k A B xs) := by
  have h1 := (valid_parts hA).2.1
  have h2 := (valid_parts hB).2.1
  exact mod_snoc (mod_app (mod_valid hA) (mod_sh (mod_valid hB)) (by rw [List.length_map]; omega)) (by simp; omega) hn
theorem Bl1.three (w : World) (x y z : Value) : Bl1 (((w.alloc (.cells #[x] 26)).alloc (.cells #[y] 26)).alloc (.cells #[z] 26)) w.heap.size x ∧ Bl1 (((w.alloc (.cells #[x] 26)).alloc (.cells #[y] 26)).alloc (.cells #[z] 26)) (w.heap.size + 1) y ∧ Bl1 (((w.alloc (.cells #[x] 26)).alloc (.cells #[y] 26)).alloc (.cells #[z] 26)) (w.heap.size + 1 + 1) z := by
  obtain ⟨h1, h2⟩ := Bl1.two w x y
  refine ⟨h1.keep (bl1 _ _), h2.keep (bl1 _ _), ?_⟩
  have e : w.heap.size + 1 + 1 = ((w.alloc (.cells #[x] 26)).alloc (.cells #[y] 26)).heap.size := by simp
  rw [e]; exact heap_alloc_new _ _
theorem bl3 (w : World) (x y z : Obj) : Below w.heap.size w (((w.alloc x).alloc y).alloc z) := bl_alloc (bl2 w x y) z
set_option maxHeartbeats 32000000 in
set_option maxRecDepth 100000 in
theorem spec_JoinShapes_any (k : Int) (va vb u : Value) (A B : List Nd) (xs : List Nat) (w : World) (ha : NodesIn w va A) (hb : NodesIn w vb B) (hma : Mod A) (hmb : Mod B) (hu : FIn w u xs) (hn : xs.length ≤ 1048576) :
    Calls Try.prog 42 #[.int .i64 k, .agg #[va], .agg #[vb], u] w (SOut w (joinL k A B xs) (joinB k A B xs)) := by
  obtain ⟨i0, hi, hz0, hz1, hz2⟩ := info_parts info_f32
  obtain ⟨j0, hj, hy0, hy1, hy2⟩ := info_parts info_nd
  obtain ⟨aa, ca, rfl, _⟩ := id ha
  obtain ⟨ab, cb, rfl, _⟩ := id hb
  obtain ⟨au, cu, rfl, _⟩ := id hu
  have HA := Lib.hid ha
  have HB := Lib.hid hb
  have HU := Lib.hid hu
  have HMA := Lib.hid hma
  have HMB := Lib.hid hmb
  have hb0 := bl3 w (.cells #[.slice aa A.length ca] 26) (.cells #[.slice ab B.length cb] 26) (.cells #[.slice none 0 0] 26)
  obtain ⟨hA, hB, hC⟩ := Bl1.three w (.slice aa A.length ca) (.slice ab B.length cb) (.slice none 0 0)
  have xA := hA.cell
  have xB := hB.cell
  have XA := Lib.hid hA
  have XB := Lib.hid hB
  have XC := Lib.hid hC
  have hla := hma.1
  have hlb := hmb.1
  clear ha hb hu hma hmb hA hB hC
  cases hVA : valid A
  · obtain ⟨e1, e2⟩ := join_no (k := k) (A := A) (B := B) (xs := xs) (fun hh => by rw [hVA] at hh; exact absurd hh.1 (by simp))
    rw [e1, e2]
    have IA := Lib.hid (fun W hc hW => l02Is_at hVA w.heap.size 0 (.slice aa A.length ca) W hc hW HMA.out)
    clear hVA e1 e2
    go_enter Try.func42, Try.ntmps42
    go_wp2_with (go_at_call 49; refine (Calls.mono (by exact IA.out _ xA (HA.out.keep hb0)) ?_); rintro e w1 ⟨rfl, hb1⟩; have hC1 := XC.out.keep hb1; have r0 := hC1.cell; have fr := hC1.frozen)
    refine bodyPost_ret (results_shape rfl _ _ (w.heap.size + 1 + 1) _ rfl (Bl1.set hC1 _)) rfl ?_
    exact ⟨_, rfl, OwnSh.nil _ _ _ (Nat.le_refl _), bl_set (bl_call hb0 hb1) (by show _ ≤ w.heap.size + 1 + 1; omega) _⟩
  have IA := Lib.hid (fun W hc hW => l02Is_at hVA w.heap.size 0 (.slice aa A.length ca) W hc hW HMA.out)
  cases hVB : valid B
  · obtain ⟨e1, e2⟩ := join_no (k := k) (A := A) (B := B) (xs := xs) (fun hh => by rw [hVB] at hh; exact absurd hh.2.1 (by simp))
    rw [e1, e2]
    have IB := Lib.hid (fun W hc hW => l02Is_at hVB (w.heap.size + 1) 0 (.slice ab B.length cb) W hc hW HMB.out)
    clear hVA hVB e1 e2
    go_enter Try.func42, Try.ntmps42
    go_wp2_with (first | (go_at_call 49; have hx := xB1; refine (Calls.mono (by exact IB.out _ xB1 ((HB.out.keep hb0).keep hb1)) ?_); rintro e w2 ⟨rfl, hb2⟩; have hC2 := hC1.keep hb2; have r0 := hC2.cell; have fr := hC2.frozen) | (go_at_call 49; refine (Calls.mono (by exact IA.out _ xA (HA.out.keep hb0)) ?_); rintro e w1 ⟨rfl, hb1⟩; have hC1 := XC.out.keep hb1; have xB1 := cellk xB hb1))
    refine bodyPost_ret (results_shape rfl _ _ (w.heap.size + 1 + 1) _ rfl (Bl1.set hC2 _)) rfl ?_
    exact ⟨_, rfl, OwnSh.nil _ _ _ (Nat.le_refl _), bl_set (bl_call (bl_call hb0 hb1) hb2) (by show _ ≤ w.heap.size + 1 + 1; omega) _⟩
  have IB := Lib.hid (fun W hc hW => l02Is_at hVB (w.heap.size + 1) 0 (.slice ab B.length cb) W hc hW HMB.out)
  cases hT : twoK k
  · obtain ⟨e1, e2⟩ := join_no (k := k) (A := A) (B := B) (xs := xs) (fun hh => by rw [two_kids, hh.2.2] at hT; exact absurd hT (by simp))
    rw [e1, e2]
    have Ht := Lib.hid (fun W => l02Two_at hT W)
    clear hVA hVB e1 e2 hT
    go_enter Try.func42, Try.ntmps42
    go_wp2_with (first | (go_at_call 49; have hx := xB1; refine (Calls.mono (by exact IB.out _ xB1 ((HB.out.keep hb0).keep hb1)) ?_); rintro e w2 ⟨rfl, hb2⟩; have hC2 := hC1.keep hb2; have r0 := hC2.cell; have fr := hC2.frozen) | (go_at_call 49; refine (Calls.mono (by exact IA.out _ xA (HA.out.keep hb0)) ?_); rintro e w1 ⟨rfl, hb1⟩; have hC1 := XC.out.keep hb1; have xB1 := cellk xB hb1) | (go_at_call 67; refine (Calls.mono (by exact Ht.out _) ?_); rintro e w' ⟨rfl, he⟩; subst w'))
    refine bodyPost_ret (results_shape rfl _ _ (w.heap.size + 1 + 1) _ rfl (Bl1.set hC2 _)) rfl ?_
    exact ⟨_, rfl, OwnSh.nil _ _ _ (Nat.le_refl _), bl_set (bl_call (bl_call hb0 hb1) hb2) (by show _ ≤ w.heap.size + 1 + 1; omega) _⟩
  have Ht := Lib.hid (fun W => l02Two_at hT W)
  have hla16 := (valid_parts hVA).2.1
  have hlb16 := (valid_parts hVB).2.1
  by_cases hl : 16 ≤ A.length + B.length
  · obtain ⟨e1, e2⟩ := join_long (k := k) (xs := xs) hl
    rw [e1, e2]
    have hd : decide ((16 : Int) ≤ (A.length : Int) + (B.length : Int)) = true := by simp; omega
    clear hVA hVB e1 e2 hT
    go_enter Try.func42, Try.ntmps42
    go_wp2_with (first | (go_at_call 49; have hx := xB1; refine (Calls.mono (by exact IB.out _ xB1 ((HB.out.keep hb0).keep hb1)) ?_); rintro e w2 ⟨rfl, hb2⟩; have hC2 := hC1.keep hb2; have r0 := hC2.cell; have fr := hC2.frozen; have xA2 := cellk xA1 hb2; have xB2 := cellk xB1 hb2) | (go_at_call 49; refine (Calls.mono (by exact IA.out _ xA (HA.out.keep hb0)) ?_); rintro e w1 ⟨rfl, hb1⟩; have hC1 := XC.out.keep hb1; have xA1 := cellk xA hb1; have xB1 := cellk xB hb1) | (go_at_call 67; refine (Calls.mono (by exact Ht.out _) ?_); rintro e w' ⟨rfl, he⟩; subst w'))
    refine bodyPost_ret (results_shape rfl _ _ (w.heap.size + 1 + 1) _ rfl (Bl1.set hC2 _)) rfl ?_
    exact ⟨_, rfl, OwnSh.nil _ _ _ (Nat.le_refl _), bl_set (bl_call (bl_call hb0 hb1) hb2) (by show _ ≤ w.heap.size + 1 + 1; omega) _⟩
  have hd : decide ((16 : Int) ≤ (A.length : Int) + (B.length : Int)) = false := by simp; omega
  have hK : kidsK k = 2 := kids2 hT
  obtain ⟨e1, e2⟩ := join_yes (k := k) (xs := xs) hVA hVB hK
  rw [e1, e2]
  have HP := Lib.hid (fun (w1 : World) (u : Value) W hc (hW : NodesIn w1 (.slice aa A.length ca) A) h0 hg => by
    have := l02Put_any w.heap.size 0 (.slice aa A.length ca) u A [] w1 W hc hW hVA h0 hg (by simp) (by omega)
    rw [sh_zero, List.nil_append] at this
    exact this)
  have HQ := Lib.hid (fun (w1 : World) (u : Value) W hc (hW : NodesIn w1 (.slice ab B.length cb) B) h0 hg => l02Put_any (w.heap.size + 1) A.length (.slice ab B.length cb) u B A w1 W hc hW hVB h0 hg (by omega) (by omega))
  have HG := Lib.hid (fun v' lo hi' W hW => l02Give_any v' (joinN k A B xs) lo hi' W hW (mod_join hVA hVB hn))
  obtain ⟨C, hC⟩ : ∃ C, A ++ B.map (shN A.length) = C := ⟨_, rfl⟩
  have HN := Lib.hid (show joinN k A B xs = C ++ [⟨k, (A.length : Int) - 1, (A.length : Int) + (B.length : Int) - 1, xs⟩] by rw [← hC]; rfl)
  have hCl : C.length ≤ 32 := by rw [← hC]; simp; omega
  rw [hC] at HQ
  generalize joinN k A B xs = L' at HG HN ⊢
  clear hVA hVB e1 e2 hK hT hC
  go_enter Try.func42, Try.ntmps42
  go_wp2_with (first | (go_at_call 49; have hx := xB1; refine (Calls.mono (by exact IB.out _ xB1 ((HB.out.keep hb0).keep hb1)) ?_); rintro e w2 ⟨rfl, hb2⟩; have xA2 := cellk xA1 hb2; have xB2 := cellk xB1 hb2; have bw2 := bl_call (bl_call hb0 hb1) hb2; have hE := Gath.nil (World.ownsRow_made (base := w2.heap.size) (e := 78) (size := 4) w2 #[] 0 (Nat.le_refl _) (by decide) (by simp)); have hb3 := bl1 w2 (.cells #[] 78); have yz1 := hb1.size; have yz2 := hb2.size) | (go_at_call 49; refine (Calls.mono (by exact IA.out _ xA (HA.out.keep hb0)) ?_); rintro e w1 ⟨rfl, hb1⟩; have xA1 := cellk xA hb1; have xB1 := cellk xB hb1) | (go_at_call 67; refine (Calls.mono (by exact Ht.out _) ?_); rintro e w' ⟨rfl, he⟩; subst w') | (go_at_call 72; have hx := hG3; refine (Calls.mono (by exact HQ.out w2 _ _ xB2 (HB.out.keep bw2) hb4 hG3) ?_); rintro e w4 ⟨u4, rfl, hG4, hb5⟩; obtain ⟨a4, n4, hu4⟩ := hG4.form; subst hu4; have hz5 := hb5.size; have bw4 := bl_call bw2 hb5) | (go_at_call 72; refine (Calls.mono (by exact HP.out w2 _ _ xA2 (HA.out.keep bw2) hb3 hE) ?_); rintro e w3 ⟨u3, rfl, hG3, hb4⟩; obtain ⟨a3, n3, hu3⟩ := hG3.form; subst hu3) | (at_builtin; refine wpList_append_fin (w0 := w4) rfl (.tmp 53) (.tmp 54) rfl i0 hi hz0 hz1 hz2 (.slice (some ⟨w4.heap.size, 0, none⟩) 0 0) rfl (World.ownsRow_made w4 #[] 0 (Nat.le_refl _) (by decide) (by simp)) (.slice au xs.length cu) rfl xs (HU.out.keep (bl_alloc bw4 _)) hn (by simp) ?_; intro nv2 w5 hN hb6 hg6; obtain ⟨na, nc, hnv, _⟩ := id hN; subst hnv; have hz6 := hb6.size) | (at_builtin; have hy := hG4; have hb7 : Below w4.heap.size w4 (w5.alloc (.cells #[.int .i64 k, .int .i64 ((A.length : Int) - 1), .int .i64 ((A.length : Int) + (B.length : Int) - 1), .slice na xs.length nc] 78)) := bl_alloc ((bl1 w4 _).trans hb6) _; obtain ⟨xs5, hrow, hpush⟩ := hG4.push hb7 (d := ⟨k, (A.length : Int) - 1, (A.length : Int) + (B.length : Int) - 1, xs⟩) (hN.keep (bl1 w5 _)) hz5; refine wpList_append_lies _ rfl (.tmp 47) (.tmp 57) 24 rfl w2.heap.size 78 j0 _ 4 48 Try.underlying24 hj hy0 hy1 hy2 rfl (by decide) (.slice a4 C.length n4) C.length xs5 rfl hrow ⟨w5.heap.size, 0, none⟩ 1 1 [.int .i64 k, .int .i64 ((A.length : Int) - 1), .int .i64 ((A.length : Int) + (B.length : Int) - 1), .slice na xs.length nc] rfl rfl (news4 (heap_alloc_new _ _)) (by simp [Value.oneCell']) (by decide) (by unfold maxLen; omega) (by omega) (by simp at hz6 ⊢; omega) _ rfl ?_; intro g6 c6 w6 hown6 hgrow6 _ _; have hG6 := hpush _ _ hown6 hgrow6; have hC6 := ((((XC.out.keep hb1).keep hb2).keep hb5).keep hb7).grown hgrow6 (fun r hr => by have := hG4.block r hr; simp at yz1; omega); have bw6 : Below w.heap.size w w6 := (bw4.trans (hb7.mono bw4.size)).grown hgrow6 (by simp at hz6 ⊢; have := bw4.size; omega) (fun r hr => by have := hG4.block r hr; simp at yz1; omega)) | (go_at_call 70; refine (Calls.mono (by exact HG.out _ _ _ _ (by rw [HN.out]; exact hG6.own)) ?_); rintro e w7 ⟨u7, rfl, hu7, hb8⟩; obtain ⟨a7, n7, hu7'⟩ := hu7.form; subst hu7'; have hC7 := hC6.keep hb8; have r0 := hC7.cell; have fr := hC7.frozen))
  refine bodyPost_ret (results_shape rfl _ _ (w.heap.size + 1 + 1) _ rfl (Bl1.set hC7 _)) rfl ?_
  simp at yz1
  refine ⟨_, rfl, OwnSh.mono (hu7.low (p := ⟨w.heap.size + 1 + 1, 0, none⟩) (by show w.heap.size + 1 + 1 < w2.heap.size; omega) _) (by omega) (by simp [World.setCell]; exact hb8.size) (Nat.le_refl _), bl_set (bl_call bw6 hb8) (by show _ ≤ w.heap.size + 1 + 1; omega) _⟩
end Go.Proofs.Ytpbccoobkmahlaa
