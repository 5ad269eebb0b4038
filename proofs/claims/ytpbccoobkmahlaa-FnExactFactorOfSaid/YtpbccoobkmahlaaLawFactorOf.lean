/- The law FnExactFactorOf returns true for every shape. No conditions. -/
import Derived.Test.YtpbccoobkmahlaaFacS
import Derived.Deep.Cut
import Derived.Deep.DeepCutAuto
namespace Go.Proofs.Ytpbccoobkmahlaa.lawFactorOf
open Go.ChangeShapes Go.WideShapes Go.ChangeAt Go.RowKit
open Go.Fl
set_option linter.unusedVariables false

theorem keepB {w w1 w2 : World} {p q : Addr} {v u : Value} {L : List Nd} (h : w1.cell? p = some v ∧ w1.cell? q = some u ∧ NodesIn w1 u L ∧ Below w.heap.size w w1) (hb : Below w1.heap.size w1 w2) :
    w2.cell? p = some v ∧ w2.cell? q = some u ∧ NodesIn w2 u L ∧ Below w.heap.size w w2 :=
  ⟨cellk h.1 hb, cellk h.2.1 hb, h.2.2.1.keep hb, bl_call h.2.2.2 hb⟩
def facO (L : List Nd) : Nat := if valid L = true then facV L else 0
def FacOut (w : World) (L : List Nd) : Ending → World → Prop := fun e w' => ∃ r, Is .f32 r (facO L) ∧ e = .returned (.tuple #[.float .f32 r, .bool (valid L)]) ∧ Below w.heap.size w w'
theorem FacOut_no {w w' : World} {L : List Nd} (h : valid L = false) (hb : Below w.heap.size w w') : FacOut w L (.returned (.tuple #[.float .f32 0, .bool false])) w' := by
  unfold FacOut facO; rw [h]; exact ⟨0, Is.refl (by decide), rfl, hb⟩
theorem FacOut_yes {w w' : World} {L : List Nd} {r : Nat} (h : valid L = true) (hr : Is .f32 r (facV L)) (hb : Below w.heap.size w w') : FacOut w L (.returned (.tuple #[.float .f32 r, .bool true])) w' := by
  unfold FacOut facO; rw [h]; exact ⟨r, hr, rfl, hb⟩
theorem FactorOf_any (v : Value) (L : List Nd) (w : World) (h : NodesIn w v L) (hm : Mod L) : Calls Try.prog 45 #[.agg #[v]] w (FacOut w L) := by
  have hb0 := bl1 w (.cells #[v] 26)
  have hbx := box1 w v 26
  obtain ⟨av, cv, rfl, _⟩ := id h
  have H := Lib.hid h
  have HM := Lib.hid hm
  clear h hm
  cases hV : valid L
  · have HV := Lib.hid hV
    have HC := Lib.hid (fun W hW => ValidShape_at hV (.slice av L.length cv) W hW HM.out)
    clear hV
    go_enter Try.func45, Try.ntmps45
    go_wp2_with (go_at_call 27; refine (Calls.mono (by exact HC.out _ (H.out.keep hb0)) ?_); rintro e w1 ⟨rfl, hb1⟩)
    go_ret2
    exact FacOut_no HV.out (bl_call hb0 hb1)
  · have HV := Lib.hid hV
    have HC := Lib.hid (fun W hW => ValidShape_at hV (.slice av L.length cv) W hW HM.out)
    clear hV
    go_enter Try.func45, Try.ntmps45
    go_wp2_with (first | (go_at_call 27; refine (Calls.mono (by exact HC.out _ (H.out.keep hb0)) ?_); rintro e w1 ⟨rfl, hb1⟩; have hbx1 := cellk hbx hb1; have e1 := bl_call hb0 hb1) | (go_at_call 76; refine (factor_any _ _ L _ hbx1 (H.out.keep e1) HV.out HM.out).mono ?_; rintro e w2 ⟨r, hr, rfl, hb2⟩))
    go_ret2
    exact FacOut_yes HV.out hr (bl_call e1 hb2)
theorem spec_FactorOf_any (v : Value) (L : List Nd) (w : World) (h : NodesIn w v L) (hm : Mod L) : Calls Try.prog 44 #[.agg #[v]] w (FacOut w L) := by
  have hb0 := bl1 w (.cells #[v] 26)
  have hbx := box1 w v 26
  obtain ⟨av, cv, rfl, _⟩ := id h
  have H := Lib.hid h
  have HM := Lib.hid hm
  clear h hm
  cases hV : valid L
  · have HV := Lib.hid hV
    have HC := Lib.hid (fun W hc hW => l02Is_at hV w.heap.size 0 (.slice av L.length cv) W hc hW HM.out)
    clear hV
    go_enter Try.func44, Try.ntmps44
    go_wp2_with (go_at_call 49; refine (Calls.mono (by exact HC.out _ hbx (H.out.keep hb0)) ?_); rintro e w1 ⟨rfl, hb1⟩)
    go_ret2
    exact FacOut_no HV.out (bl_call hb0 hb1)
  · have HV := Lib.hid hV
    have HC := Lib.hid (fun W hc hW => l02Is_at hV w.heap.size 0 (.slice av L.length cv) W hc hW HM.out)
    clear hV
    go_enter Try.func44, Try.ntmps44
    go_wp2_with (first | (go_at_call 49; refine (Calls.mono (by exact HC.out _ hbx (H.out.keep hb0)) ?_); rintro e w1 ⟨rfl, hb1⟩; have hbx1 := cellk hbx hb1; have e1 := bl_call hb0 hb1) | (go_at_call 75; refine (l02Factor_any _ _ L _ hbx1 (H.out.keep e1) HV.out HM.out).mono ?_; rintro e w2 ⟨r, hr, rfl, hb2⟩))
    go_ret2
    exact FacOut_yes HV.out hr (bl_call e1 hb2)
set_option maxHeartbeats 4000000 in
theorem walk (v : Value) (L : List Nd) (w : World) (h : NodesIn w v L) (hs : Small L) : Calls Try.prog 11 #[.agg #[v]] w fun e w' => e = .returned (.bool true) ∧ Below w.heap.size w w' := by
  obtain ⟨av, cv, rfl, _⟩ := id h
  have H := Lib.hid h
  have Hs := Lib.hid hs
  clear h hs
  have hb0 := bl1 w (.cells #[.slice av L.length cv] 38)
  have c0 := box1 w (.slice av L.length cv) 38
  obtain ⟨x, hx⟩ : ∃ x, facO L = x := ⟨_, rfl⟩
  obtain ⟨b, hb⟩ : ∃ b, valid L = b := ⟨_, rfl⟩
  have HX := Lib.hid (show ∀ W e w', FacOut W L e w' → ∃ r, Is .f32 r x ∧ e = .returned (.tuple #[.float .f32 r, .bool b]) ∧ Below W.heap.size W w' by rw [← hx, ← hb]; exact fun _ _ _ h => h)
  clear hx hb
  go_enter Try.func11, Try.ntmps11
  go_wp2_with fail
  refine (szShape_any _ L 1048576 _ (H.out.keep hb0) Hs.out (by omega)).mono ?_
  rintro e w1 ⟨⟨hl, rfl⟩ | ⟨hl, rfl⟩, hb1⟩
  rotate_left
  · go_wp2_with fail
    go_ret
    exact ⟨rfl, bl_call hb0 hb1⟩
  have c1 := cellk c0 hb1
  have e1 := bl_call hb0 hb1
  have hn1 := nneg (1048576 - tot L)
  have HL := Lib.hid hl
  have HM := Lib.hid (mod_of hl)
  clear hb0 hb1 c0 hl
  go_wp2_with fail
  refine (toShape_any _ L _ (H.out.keep e1) HL.out).mono ?_
  rintro e w2 ⟨va, rfl, hA, hb2⟩
  obtain ⟨ga, hga, _⟩ := id hA
  subst hga
  have e2 := bl_call e1 hb2
  have c2 := cellk c1 hb2
  clear e1 c1 hb2
  go_wp2_with fail
  refine (spec_FactorOf_any _ L _ hA.nodes HM.out).mono ?_
  intro e w3 hO
  obtain ⟨r3, hr3, rfl, hb3⟩ := HX.out _ _ _ hO
  have e3 := bl_call e2 hb3
  have c3 := cellk c2 hb3
  clear e2 c2 hb3 hA
  go_wp2_with fail
  refine (toShape_any _ L _ (H.out.keep e3) HL.out).mono ?_
  rintro e w4 ⟨vb, rfl, hB, hb4⟩
  obtain ⟨gb, hgb, _⟩ := id hB
  subst hgb
  have hb5 := bl1 w4 (.cells #[.slice (some ⟨gb, 0, none⟩) L.length L.length] 26)
  have c5 := cellk (cellk c3 hb4) hb5
  have d5 := box1 w4 (.slice (some ⟨gb, 0, none⟩) L.length L.length) 26
  have hB5 := (hB.keep hb5).nodes
  have e5 := bl_call (bl_call e3 hb4) hb5
  clear e3 c3 hb4 hb5 hB
  go_wp2_with fail
  refine (FactorOf_any _ L _ hB5 HM.out).mono ?_
  intro e w6 hO2
  obtain ⟨r6, hr6, rfl, hb6⟩ := HX.out _ _ _ hO2
  have e6 := bl_call e5 hb6
  have c6 := cellk c5 hb6
  have d6 := cellk d5 hb6
  have hB6 := hB5.keep hb6
  clear e5 c5 d5 hB5 hb6
  have hq := beq_self_bool b
  have C6 := Lib.hid c6
  have D6 := Lib.hid d6
  have B6 := Lib.hid hB6
  have E6 := Lib.hid e6
  clear c6 d6 hB6 e6 hO hO2
  go_upto_region 8 with fail
  go_cut [37] (fun sx wx => sx = .bool false ∧ Below w6.heap.size w6 wx)
  case first =>
    go_wp2_with (first | ((with_reducible refine wpList_widen ?_); refine ⟨_, ⟨rfl, rfl, by rw [Try.underlying61]; rfl, by with_reducible exact Try.underlying65⟩, ?_⟩; intro q n hq) | (go_at_call 46; refine (sameFloat_true _ _ (wide_eq (by assumption) (by assumption) (Is.same (by assumption) (by assumption))) _).mono ?_; rintro e w' ⟨rfl, n, rfl⟩))
    go_meet
    exact ⟨rfl, by repeat (first | with_reducible exact bl_refl _ | with_reducible refine bl_drewN ?_ _)⟩
  case rest =>
  obtain ⟨rfl, hE⟩ := hcut
  obtain ⟨w7, hw7⟩ : ∃ w7, w7 = wc := ⟨_, rfl⟩
  rw [← hw7] at hE ⊢
  clear hw7
  have c6 := cellk C6.out hE
  have d6 := cellk D6.out hE
  have hB6 := B6.out.keep hE
  have e6 := bl_call E6.out hE
  clear hE
  go_upto_region 10 with fail
  have HS0 := Lib.hid (show w7.drew.cell? ⟨w.heap.size, 0, none⟩ = some (.slice av L.length cv) ∧ w7.drew.cell? ⟨w4.heap.size, 0, none⟩ = some (.slice (some ⟨gb, 0, none⟩) L.length L.length) ∧ NodesIn w7.drew (.slice (some ⟨gb, 0, none⟩) L.length L.length) L ∧ Below w.heap.size w w7.drew from ⟨c6, d6, hB6, bl_drew e6⟩)
  clear c6 d6 hB6 e6
  go_cut [42] (fun sx wx => sx = .bool false ∧ Below w.heap.size w wx)
  case first =>
    go_region_held3 (fun wx => wx.cell? ⟨w.heap.size, 0, none⟩ = some (.slice av L.length cv) ∧ wx.cell? ⟨w4.heap.size, 0, none⟩ = some (.slice (some ⟨gb, 0, none⟩) L.length L.length) ∧ NodesIn wx (.slice (some ⟨gb, 0, none⟩) L.length L.length) L ∧ Below w.heap.size w wx) (first | exact HS0.out | exact keepB (by assumption) (by assumption)) (first | (go_at_call 24; refine (toShape_any _ L _ (H.out.keep (And.right (And.right (And.right (by assumption))))) HL.out).mono ?_; rintro e wa ⟨va, rfl, hA, hba⟩; obtain ⟨ga', hga, _⟩ := id hA; subst hga) | (go_at_call 17; refine (eqShape_true _ _ L _ (And.left (And.right (And.right (by assumption)))) hA.nodes HL.out).mono ?_; rintro e wd ⟨rfl, hbd⟩))
    all_goals (go_wp2_with fail; go_meet; exact ⟨rfl, And.right (And.right (And.right (by assumption)))⟩)
  case rest =>
    obtain ⟨rfl, hE⟩ := hcut
    go_wp2_with fail
    go_ret
    exact ⟨rfl, hE⟩

theorem own : ownKnob Try.prog.godebug = none := by kernel_rfl
theorem laidOut : laidOutB Try.prog = true := by kernel_rfl

set_option maxRecDepth 100000 in
theorem lifted (os : Os) (started : os.Started) (H : Type) (enc : TypeId × Value → H) :
    ReturnsInHanded {} Try.checked os 11 .any (Rows.fnExactFactorOfSpec.pre6 enc Try.prog Try.f11 Rows.fnExactFactorOfRow.domain false) (Rows.fnExactFactorOfSpec.post enc Try.prog Try.f11 false true false false) := by
  refine returnsInHanded_of_change (C := Try.checked) own started (by kernel_rfl) Try.func11
    (ChangeSpec.witness6 (enc := enc) (C := Try.checked) false ⟨#[], #[.agg #[.slice none 0 0]], []⟩ 8 (by kernel_rfl) (by kernel_rfl) (by kernel_rfl) (by kernel_rfl)) ?_
  intro W base args ds gs before hval0 hW hcnd _
  have hval : ∀ (j : Nat) t v, Try.f11.params[j]? = some t → args[j]? = some v → Value.okWide Try.prog W .any base t v := hval0
  have hW' := hW
  obtain ⟨p, q, hA0, hV, rfl, hfz, hnd⟩ := hW
  have hA : DataW.TrodAll enc Try.prog W 0 (fun _ => true) true Try.f11.params.toList args.toList ds p := hA0
  rw [Try.params11] at hA hval
  obtain ⟨v0, vs0, d0, ds0, p0, q0, hargs, rfl, rfl, h0, r0⟩ := trodAll_cons hA
  obtain ⟨rfl, rfl, rfl⟩ := trodAll_nil r0
  obtain rfl : args = #[v0] := by cases args; simp_all
  obtain ⟨rfl, rfl⟩ := trodVars_none hV
  have k0 := h0
  have lt0 : ∀ x ∈ p0, x.block < W.heap.size := by obtain ⟨m, hm⟩ := k0; exact DataW.trod_lt m _ _ _ hm
  obtain ⟨sv0, L0, rfl, w0, s0⟩ := open_shape Try.underlying38 (by kernel_rfl) (by kernel_rfl) rfl Try.underlying36 Try.underlying107 (by kernel_rfl) (by kernel_rfl) Try.underlying2 Try.underlying2 Try.underlying2 Try.underlying46 Try.underlying61 (by kernel_rfl) (hval 0 38 v0 rfl rfl) h0
  clear hA0 hval0
  refine (walk sv0 L0 W w0 s0).mono fun e W' ⟨he, bel⟩ => ?_
  subst he
  exact ⟨_, rfl, _, _, _, [], _, [], hW', trodAll_mk1 (shut_bool Try.underlying4 _), (trodAll_cons_mk (Below.trod laidOut (by kernel_rfl) (of_decide_eq_true (by kernel_rfl)) k0 bel lt0) trodAll_mk0), rfl, bel.frame _, fun h => by cases h⟩

theorem over : Rows.fnExactFactorOfRow.holds Try.pinned (OpenSpec.ofChange Rows.fnExactFactorOfSpec) :=
  OpenClaim.holds_of_wide 11 Try.f11 rfl rfl rfl rfl rfl rfl rfl ⟨rfl, rfl, rfl, rfl, rfl⟩ rfl rfl rfl rfl rfl (by kernel_rfl) Try.func11 (by kernel_rfl)
    (of_decide_eq_true (by kernel_rfl)) (by unfold Func.isWrapper; first | (rw [if_pos (by decide +kernel)]; kernel_rfl) | (rw [if_neg (by decide +kernel)]; exact ⟨rfl, rfl⟩))
    (fun os started H enc _ => lifted os started H enc)

theorem proved : Rows.FnExactFactorOfSaid := over
#print axioms proved
end Go.Proofs.Ytpbccoobkmahlaa.lawFactorOf
