/- The law FnExactLeavesOf returns true for every shape. No conditions. -/
import Derived.Test.YtpbccoobkmahlaaLv
import Derived.Test.YtpbccoobkmahlaaShapeO
import Derived.Deep.Cut
import Derived.Deep.DeepCutAuto
namespace Go.Proofs.Ytpbccoobkmahlaa.lawLeavesOf
open Go.ChangeShapes Go.WideShapes Go.ChangeAt Go.RowKit
open Go.Fl
set_option linter.unusedVariables false

theorem keepB {w w1 w2 : World} {p q : Addr} {v u : Value} {L : List Nd} (h : w1.cell? p = some v ∧ w1.cell? q = some u ∧ NodesIn w1 u L ∧ Below w.heap.size w w1) (hb : Below w1.heap.size w1 w2) :
    w2.cell? p = some v ∧ w2.cell? q = some u ∧ NodesIn w2 u L ∧ Below w.heap.size w w2 :=
  ⟨cellk h.1 hb, cellk h.2.1 hb, h.2.2.1.keep hb, bl_call h.2.2.2 hb⟩
theorem held_one (v : Value) (n : Nat) (w : World) (h : IIn w v (marks 1 n)) (hn : 1 + n ≤ 1073741824) : Calls Try.prog 39 #[v, .int .i64 1] w (IOut w .i64 ((1 + n : Nat) : Int)) := heldInt64S_any v 1 n w h hn
theorem marked_one (v : Value) (zs : List Int) (n B : Nat) (w : World) (hnz : n = zs.length) (h : w.ownsRow B 2 1 v n (zs.map (Value.int .i64))) (hn : 1 + n ≤ 1073741824) : Calls Try.prog 38 #[v, .int .i64 1] w
    fun e w' => e = .returned (.int .i64 ((1 + n : Nat) : Int)) ∧ w'.ownsRow B 2 1 v n ((marks 1 n).map (Value.int .i64)) ∧ w.grownBy w' v.ownBlock := markInt64S_any v zs 1 n B w hnz h hn
theorem own_apart {w w' : World} {B B' n n' s s' : Nat} {e e' : TypeId} {v u : Value} {xs ys : List Value} (h : w.ownsRow B e s v n xs) (h' : w'.ownsRow B' e' s' u n' ys) (hb : w.heap.size ≤ B') : v.ownBlock = none ∨ v.ownBlock ≠ u.ownBlock := by
  cases hv : v.ownBlock with
  | none => exact .inl rfl
  | some k => exact .inr (fun e => by have := (h.lt k hv).2; have := (h'.lt k (by rw [← e])).1; omega)
theorem row_within {w w' : World} {lo hi B n s : Nat} {e : TypeId} {v : Value} {xs : List Value} (h : w.ownsRow B e s v n xs) (hw : Within lo hi w w') (hv : ∀ g, v.ownBlock = some g → g < lo ∨ hi ≤ g) : w'.ownsRow B e s v n xs :=
  own_at h (fun g hg => hw.block g (h.lt g hg).2 (hv g hg))
theorem sum_mk : ∀ P : List PNd, (P.map mkLen).sum = 3 * P.length + sumX (P.map (·.d))
  | [] => by simp [sumX]
  | p :: r => by
    have := sum_mk r
    unfold sumX at this ⊢
    simp only [List.map_cons, List.sum_cons, List.length_cons, mkLen, this]
    omega
theorem kAt_is {P : List PNd} {L : List Nd} (h : P.map (·.d) = L) (k : Nat) : kAt P k P.length = k + (3 * L.length + sumX L) := by
  unfold kAt; rw [List.take_length, sum_mk, h, ← h, List.length_map]
theorem markShape_one (v : Value) (L : List Nd) (lo hi : Nat) (w : World) (h : OwnSh w lo hi v L) (hn : tot L ≤ 1048576) : Calls Try.prog 20 #[.agg #[v], .int .i64 1] w
    fun e w' => e = .returned (.int .i64 ((1 + (3 * L.length + sumX L) : Nat) : Int)) ∧ Within lo hi w w' := by
  obtain ⟨P, e, hP⟩ := h
  have hk := kAt_is e 1
  have hl : P.length = L.length := by rw [← e, List.length_map]
  unfold tot at hn
  refine (markShape_any v P 1 lo hi w hP (by omega) (by omega)).mono ?_
  rintro e w' ⟨rfl, _, hw⟩
  exact ⟨by rw [hk], hw⟩
set_option maxHeartbeats 8000000 in
set_option maxRecDepth 100000 in
theorem walk (v : Value) (L : List Nd) (w : World) (h : NodesIn w v L) (hs : Small L) : Calls Try.prog 8 #[.agg #[v]] w fun e w' => e = .returned (.bool true) ∧ Below w.heap.size w w' := by
  obtain ⟨av, cv, rfl, _⟩ := id h
  have H := Lib.hid h
  have Hs := Lib.hid hs
  clear h hs
  have hb0 := bl1 w (.cells #[.slice av L.length cv] 38)
  have c0 := box1 w (.slice av L.length cv) 38
  obtain ⟨Z, hZ⟩ : ∃ Z, lvZ L = Z := ⟨_, rfl⟩
  obtain ⟨b, hb⟩ : ∃ b, valid L = b := ⟨_, rfl⟩
  have hzl : Z.length ≤ 16 := by
    rw [← hZ]; unfold lvZ; split
    · rename_i hv; have := lvs_len L L.length; have := (valid_parts hv).2.1; omega
    · simp
  have HX := Lib.hid (show ∀ W e w', LOut W L e w' → ∃ v, e = .returned (.tuple #[v, .bool b]) ∧ w'.ownsRow W.heap.size 2 1 v Z.length (Z.map (Value.int .i64)) ∧ Below W.heap.size W w' by rw [← hZ, ← hb]; exact fun _ _ _ h => h)
  clear hZ hb
  go_enter Try.func8, Try.ntmps8
  go_wp2_with fail
  refine (szShape_any _ L 1048576 _ (H.out.keep hb0) Hs.out (by omega)).mono ?_
  rintro e w1 ⟨⟨hl, rfl⟩ | ⟨hl, rfl⟩, hb1⟩
  rotate_left
  · go_wp2_with fail
    go_ret
    exact ⟨rfl, bl_call hb0 hb1⟩
  have c1 := cellk c0 hb1
  have e1 := bl_call hb0 hb1
  have hn1 := nneg (1048576 - tot L)
  have HL := Lib.hid hl
  have HM := Lib.hid (mod_of hl)
  clear hb0 hb1 c0 hl
  go_wp2_with fail
  refine (toShape_any _ L _ (H.out.keep e1) HL.out).mono ?_
  rintro e w2 ⟨va, rfl, hA, hb2⟩
  obtain ⟨ga, hga, _⟩ := id hA
  subst hga
  have e2 := bl_call e1 hb2
  have c2 := cellk c1 hb2
  clear e1 c1 hb2
  go_wp2_with fail
  refine (spec_LeavesOf_any _ L _ hA.nodes HM.out).mono ?_
  intro e w3 hO
  obtain ⟨v0, rfl, r3, hb3⟩ := HX.out _ _ _ hO
  have e3 := bl_call e2 hb3
  have c3 := cellk c2 hb3
  clear e2 c2 hb3 hA hO
  go_wp2_with fail
  refine (toShape_own _ L _ (H.out.keep e3) HL.out).mono ?_
  rintro e w4 ⟨gb, rfl, hB, hb4⟩
  have hb5 := bl1 w4 (.cells #[.slice (some ⟨gb, 0, none⟩) L.length L.length] 26)
  have c5 := cellk (cellk c3 hb4) hb5
  have d5 := box1 w4 (.slice (some ⟨gb, 0, none⟩) L.length L.length) 26
  have hB5 := hB.keep hb5
  have e5 := bl_call (bl_call e3 hb4) hb5
  have r5 := own_keep (own_keep r3 hb4) hb5
  have z34 := hb4.size
  have z45 := hb5.size
  have x3 : ∀ g, v0.ownBlock = some g → g < w3.heap.size := fun g hg => (r3.lt g hg).2
  have ew3 := e3.size
  have cw3 : w.heap.size < w3.heap.size := World.block_lt_of_cell? w3 _ c3
  clear e3 c3 hb4 hb5 hB r3
  go_wp2_with fail
  refine (LeavesOf_any _ L _ hB5.nodes HM.out).mono ?_
  intro e w6 hO
  obtain ⟨v6, rfl, r6, hb6⟩ := HX.out _ _ _ hO
  have e6 := bl_call e5 hb6
  have c6 := cellk c5 hb6
  have d6 := cellk d5 hb6
  have hB6 := hB5.keep hb6
  have s6 := own_keep r5 hb6
  have x6 : ∀ g, v6.ownBlock = some g → w4.heap.size ≤ g := fun g hg => Nat.le_trans z45 (r6.lt g hg).1
  have a06 := own_apart r5 r6 (Nat.le_refl _)
  clear e5 c5 d5 hB5 hb6 r5 hO
  have hq := beq_self_bool b
  go_wp2_with fail
  refine (eqInt64S_true _ _ Z _ (IIn_of_row rfl r6) (IIn_of_row rfl s6) (by omega)).mono ?_
  rintro e w' ⟨rfl, n7, rfl⟩
  go_upto_region 10 with fail
  have HS0 := Lib.hid (show (w6.drewN n7).drew.cell? ⟨w.heap.size, 0, none⟩ = some (.slice av L.length cv) ∧ (w6.drewN n7).drew.cell? ⟨w4.heap.size, 0, none⟩ = some (.slice (some ⟨gb, 0, none⟩) L.length L.length) ∧ NodesIn (w6.drewN n7).drew (.slice (some ⟨gb, 0, none⟩) L.length L.length) L ∧ Below w6.heap.size w6 (w6.drewN n7).drew from ⟨c6, d6, hB6.nodes, bl_drew (bl_drewN (bl_refl _) _)⟩)
  have HB6 := Lib.hid hB6
  have E6 := Lib.hid e6
  clear hB6 e6
  go_cut [45] (fun sx wx => sx = .bool false ∧ Below w6.heap.size w6 wx)
  case first =>
    clear c6 d6 r6 s6
    go_region_held3 (fun wx => wx.cell? ⟨w.heap.size, 0, none⟩ = some (.slice av L.length cv) ∧ wx.cell? ⟨w4.heap.size, 0, none⟩ = some (.slice (some ⟨gb, 0, none⟩) L.length L.length) ∧ NodesIn wx (.slice (some ⟨gb, 0, none⟩) L.length L.length) L ∧ Below w6.heap.size w6 wx) (first | exact HS0.out | exact keepB (by assumption) (by assumption)) (first | (go_at_call 24; refine (toShape_any _ L _ (H.out.keep (bl_call E6.out (And.right (And.right (And.right (by assumption)))))) HL.out).mono ?_; rintro e wa ⟨va, rfl, hA, hba⟩; obtain ⟨ga', hga, _⟩ := id hA; subst hga) | (go_at_call 17; refine (eqShape_true _ _ L _ (And.left (And.right (And.right (by assumption)))) hA.nodes HL.out).mono ?_; rintro e wd ⟨rfl, hbd⟩))
    all_goals (go_wp2_with fail; go_meet; exact ⟨rfl, And.right (And.right (And.right (by assumption)))⟩)
  case rest =>
    obtain ⟨rfl, hE⟩ := hcut
    clear HS0
    have e8 := bl_call E6.out hE
    have c8 := cellk c6 hE
    have d8 := cellk d6 hE
    have hB8 := HB6.out.keep hE
    have s8 := own_keep s6 hE
    have r8 := own_keep r6 hE
    clear hE c6 d6 s6 r6 HB6
    go_wp2_with fail
    refine (markShape_one _ L _ _ _ hB8 HL.out).mono ?_
    rintro e w9 ⟨rfl, hw9⟩
    have e9 := bl_within e8 hw9 ew3
    have c9 := cellW c8 hw9 (.inl cw3)
    have s9 := row_within s8 hw9 (fun g hg => .inl (x3 g hg))
    have r9 := row_within r8 hw9 (fun g hg => .inr (x6 g hg))
    clear c8 d8 hB8 s8 r8 hw9 e8
    have hk9 := nneg (1 + (3 * L.length + sumX L))
    go_wp2_with fail
    refine (eqInt64S_true _ _ Z _ (IIn_of_row rfl r9) (IIn_of_row rfl s9) (by omega)).mono ?_
    rintro e w' ⟨rfl, n9, rfl⟩
    go_wp2_with fail
    refine (marked_one _ Z _ _ _ rfl (own_drewN r9 _) (by omega)).mono ?_
    rintro e w10 ⟨rfl, r10, hg10⟩
    have hg10' := grown_of_drewN hg10
    have e10 := e9.grown hg10' e9.size (fun k hk => by have := x6 k hk; omega)
    have c10 := hg10'.cell c9 (fun e => by have := x6 _ e.symm; simp at this; omega)
    have s10 := s9.kept hg10' a06
    clear hg10 hg10' e9 c9 s9 r9 hk9
    have hk10 := nneg (1 + Z.length)
    have hq10 : (((1 + Z.length : Nat) : Int) != ((1 + Z.length : Nat) : Int)) = false := by simp
    go_wp2_with fail
    refine (held_one _ _ _ (IIn_of_row (marks_len _ _).symm r10) (by omega)).mono ?_
    rintro e w' ⟨rfl, n11, rfl⟩
    go_wp2_with fail
    refine (toShape_any _ L _ (H.out.keep (bl_drewN e10 _)) HL.out).mono ?_
    rintro e w12 ⟨vc, rfl, hC, hb12⟩
    obtain ⟨gc, hgc, _⟩ := id hC
    subst hgc
    have e12 := bl_call (bl_drewN e10 n11) hb12
    have hb12' := un_drewN hb12
    have s12 := own_keep s10 hb12'
    have r12 := own_keep r10 hb12'
    clear s10 r10 hb12 hb12' e10 c10
    go_wp2_with fail
    refine (LeavesOf_any _ L _ hC.nodes HM.out).mono ?_
    intro e w13 hO
    obtain ⟨v13, rfl, r13, hb13⟩ := HX.out _ _ _ hO
    have e13 := bl_call e12 hb13
    have s13 := own_keep s12 hb13
    have q13 := own_keep r12 hb13
    clear hO hb13 e12 s12 r12 hC
    go_wp2_with fail
    refine (eqInt64S_true _ _ Z _ (IIn_of_row rfl r13) (IIn_of_row rfl s13) (by omega)).mono ?_
    rintro e w' ⟨rfl, n14, rfl⟩
    go_wp2_with fail
    refine (held_one _ _ _ (IIn_of_row (marks_len _ _).symm (own_drewN q13 _)) (by omega)).mono ?_
    rintro e w' ⟨rfl, n15, rfl⟩
    go_wp2_with fail
    go_ret
    exact ⟨rfl, bl_drewN e13 _⟩

theorem own : ownKnob Try.prog.godebug = none := by kernel_rfl
theorem laidOut : laidOutB Try.prog = true := by kernel_rfl

set_option maxRecDepth 100000 in
theorem lifted (os : Os) (started : os.Started) (H : Type) (enc : TypeId × Value → H) :
    ReturnsInHanded {} Try.checked os 8 .any (Rows.fnExactLeavesOfSpec.pre6 enc Try.prog Try.f8 Rows.fnExactLeavesOfRow.domain false) (Rows.fnExactLeavesOfSpec.post enc Try.prog Try.f8 false true false false) := by
  refine returnsInHanded_of_change (C := Try.checked) own started (by kernel_rfl) Try.func8
    (ChangeSpec.witness6 (enc := enc) (C := Try.checked) false ⟨#[], #[.agg #[.slice none 0 0]], []⟩ 8 (by kernel_rfl) (by kernel_rfl) (by kernel_rfl) (by kernel_rfl)) ?_
  intro W base args ds gs before hval0 hW hcnd _
  have hval : ∀ (j : Nat) t v, Try.f8.params[j]? = some t → args[j]? = some v → Value.okWide Try.prog W .any base t v := hval0
  have hW' := hW
  obtain ⟨p, q, hA0, hV, rfl, hfz, hnd⟩ := hW
  have hA : DataW.TrodAll enc Try.prog W 0 (fun _ => true) true Try.f8.params.toList args.toList ds p := hA0
  rw [Try.params8] at hA hval
  obtain ⟨v0, vs0, d0, ds0, p0, q0, hargs, rfl, rfl, h0, r0⟩ := trodAll_cons hA
  obtain ⟨rfl, rfl, rfl⟩ := trodAll_nil r0
  obtain rfl : args = #[v0] := by cases args; simp_all
  obtain ⟨rfl, rfl⟩ := trodVars_none hV
  have k0 := h0
  have lt0 : ∀ x ∈ p0, x.block < W.heap.size := by obtain ⟨m, hm⟩ := k0; exact DataW.trod_lt m _ _ _ hm
  obtain ⟨sv0, L0, rfl, w0, s0⟩ := open_shape Try.underlying38 (by kernel_rfl) (by kernel_rfl) rfl Try.underlying36 Try.underlying107 (by kernel_rfl) (by kernel_rfl) Try.underlying2 Try.underlying2 Try.underlying2 Try.underlying46 Try.underlying61 (by kernel_rfl) (hval 0 38 v0 rfl rfl) h0
  clear hA0 hval0
  refine (walk sv0 L0 W w0 s0).mono fun e W' ⟨he, bel⟩ => ?_
  subst he
  exact ⟨_, rfl, _, _, _, [], _, [], hW', trodAll_mk1 (shut_bool Try.underlying4 _), (trodAll_cons_mk (Below.trod laidOut (by kernel_rfl) (of_decide_eq_true (by kernel_rfl)) k0 bel lt0) trodAll_mk0), rfl, bel.frame _, fun h => by cases h⟩

theorem over : Rows.fnExactLeavesOfRow.holds Try.pinned (OpenSpec.ofChange Rows.fnExactLeavesOfSpec) :=
  OpenClaim.holds_of_wide 8 Try.f8 rfl rfl rfl rfl rfl rfl rfl ⟨rfl, rfl, rfl, rfl, rfl⟩ rfl rfl rfl rfl rfl (by kernel_rfl) Try.func8 (by kernel_rfl)
    (of_decide_eq_true (by kernel_rfl)) (by unfold Func.isWrapper; first | (rw [if_pos (by decide +kernel)]; kernel_rfl) | (rw [if_neg (by decide +kernel)]; exact ⟨rfl, rfl⟩))
    (fun os started H enc _ => lifted os started H enc)

theorem proved : Rows.FnExactLeavesOfSaid := over
#print axioms proved
end Go.Proofs.Ytpbccoobkmahlaa.lawLeavesOf
