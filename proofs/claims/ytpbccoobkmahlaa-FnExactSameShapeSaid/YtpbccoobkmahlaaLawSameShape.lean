/- The law FnExactSameShape returns true for every two shapes. No conditions. -/
import Derived.Test.YtpbccoobkmahlaaSameS
import Derived.Test.YtpbccoobkmahlaaKeep
import Derived.Deep.Cut
import Derived.Deep.DeepCutAuto
namespace Go.Proofs.Ytpbccoobkmahlaa.lawSameShape
open Go.ChangeShapes Go.WideShapes Go.ChangeAt Go.RowKit
open Go.Fl
set_option linter.unusedVariables false

theorem keepA {w w1 w2 : World} {p q : Addr} {v u : Value} (h : w1.cell? p = some v ∧ w1.cell? q = some u ∧ Below w.heap.size w w1) (hb : Below w1.heap.size w1 w2) : w2.cell? p = some v ∧ w2.cell? q = some u ∧ Below w.heap.size w w2 :=
  ⟨cellk h.1 hb, cellk h.2.1 hb, bl_call h.2.2 hb⟩
theorem keepB {w w1 w2 : World} {p q p' q' : Addr} {v u v' u' : Value} {L M : List Nd} (h : w1.cell? p = some v ∧ w1.cell? q = some u ∧ w1.cell? p' = some v' ∧ w1.cell? q' = some u' ∧ NodesIn w1 v' L ∧ NodesIn w1 u' M ∧ Below w.heap.size w w1) (hb : Below w1.heap.size w1 w2) :
    w2.cell? p = some v ∧ w2.cell? q = some u ∧ w2.cell? p' = some v' ∧ w2.cell? q' = some u' ∧ NodesIn w2 v' L ∧ NodesIn w2 u' M ∧ Below w.heap.size w w2 :=
  ⟨cellk h.1 hb, cellk h.2.1 hb, cellk h.2.2.1 hb, cellk h.2.2.2.1 hb, h.2.2.2.2.1.keep hb, h.2.2.2.2.2.1.keep hb, bl_call h.2.2.2.2.2.2 hb⟩
set_option maxHeartbeats 4000000 in
theorem walk (v : Value) (L : List Nd) (u : Value) (M : List Nd) (w : World) (h : NodesIn w v L) (hs : Small L) (h' : NodesIn w u M) (hs' : Small M) : Calls Try.prog 4 #[.agg #[v], .agg #[u]] w fun e w' => e = .returned (.bool true) ∧ Below w.heap.size w w' := by
  obtain ⟨av, cv, rfl, _⟩ := id h
  obtain ⟨au, cu, rfl, _⟩ := id h'
  have H := Lib.hid h
  have H' := Lib.hid h'
  have Hs := Lib.hid hs
  have Hs' := Lib.hid hs'
  clear h h' hs hs'
  go_enter Try.func4, Try.ntmps4
  go_wp2_with fail
  have hb0 := bl2 w (.cells #[.slice av L.length cv] 38) (.cells #[.slice au M.length cu] 38)
  refine (szShape_any _ L 1048576 _ (H.out.keep hb0) Hs.out (by omega)).mono ?_
  rintro e w1 ⟨⟨hl, rfl⟩ | ⟨hl, rfl⟩, hb1⟩
  rotate_left
  · go_wp2_with fail
    go_ret
    exact ⟨rfl, bl_call hb0 hb1⟩
  have c0 := cellk (box1of2 w (.slice av L.length cv) (.slice au M.length cu) 38 38) hb1
  have c1 := cellk (box2of2 w (.slice av L.length cv) (.slice au M.length cu) 38 38) hb1
  have e1 := bl_call hb0 hb1
  clear hb0 hb1
  have hn1 := nneg (1048576 - tot L)
  go_wp2_with fail
  refine (szShape_any _ M (1048576 - tot L) _ (H'.out.keep e1) Hs'.out (by omega)).mono ?_
  rintro e w2 ⟨⟨hl', rfl⟩ | ⟨hl', rfl⟩, hb2⟩
  rotate_left
  · go_wp2_with fail
    go_ret
    exact ⟨rfl, bl_call e1 hb2⟩
  have d0 := cellk c0 hb2
  have d1 := cellk c1 hb2
  have e2 := bl_call e1 hb2
  clear c0 c1 e1 hb2 hn1
  have hn2 := nneg (1048576 - tot L - tot M)
  have HL := Lib.hid hl
  have HM := Lib.hid (show tot M ≤ 1048576 by omega)
  clear hl hl'
  go_upto_region 8 with fail
  go_cut [6] (fun s6 wx => s6 = .bool (sameN L M) ∧ wx.cell? ⟨w.heap.size, 0, none⟩ = some (.slice av L.length cv) ∧ wx.cell? ⟨w.heap.size + 1, 0, none⟩ = some (.slice au M.length cu) ∧ Below w.heap.size w wx)
  case first =>
    have hS0 : w2.drew.cell? ⟨w.heap.size, 0, none⟩ = some (.slice av L.length cv) ∧ w2.drew.cell? ⟨w.heap.size + 1, 0, none⟩ = some (.slice au M.length cu) ∧ Below w.heap.size w w2.drew := ⟨d0, d1, bl_drew e2⟩
    have HS0 := Lib.hid hS0
    clear hS0
    go_region_held3 (fun w' => w'.cell? ⟨w.heap.size, 0, none⟩ = some (.slice av L.length cv) ∧ w'.cell? ⟨w.heap.size + 1, 0, none⟩ = some (.slice au M.length cu) ∧ Below w.heap.size w w') (first | exact HS0.out | exact keepA (by assumption) (by assumption)) (first | (go_at_call_of 24 cv; refine (toShape_any _ L _ (H.out.keep (And.right (And.right (by assumption)))) HL.out).mono ?_; rintro e wa ⟨va, rfl, hA, hba⟩; obtain ⟨ga, hga, _⟩ := id hA; subst hga) | (go_at_call_of 24 cu; refine (toShape_any _ M _ (H'.out.keep (And.right (And.right (by assumption)))) HM.out).mono ?_; rintro e wb ⟨vb, rfl, hB, hbb⟩; obtain ⟨gb, hgb, _⟩ := id hB; subst hgb) | (go_at_call 23; refine (spec_SameShape_any _ _ L M _ (by first | exact hA.nodes | exact (hA.keep hbb).nodes) (by first | exact hB.nodes | exact (hB.keep hba).nodes) HL.out Hs.out Hs'.out).mono ?_; rintro e wd ⟨rfl, hbd⟩))
    all_goals (go_wp2_with fail; go_meet; exact ⟨rfl, by assumption⟩)
  case rest =>
    obtain ⟨rfl, k0, k1, kb⟩ := hcut
    clear d0 d1 e2
    go_wp2_with fail
    refine (toShape_any _ L _ (H.out.keep kb) HL.out).mono ?_
    rintro e w3 ⟨va, rfl, hA, hb3⟩
    obtain ⟨ga, hga, _⟩ := id hA
    subst hga
    have l1 := cellk k1 hb3
    have l0 := cellk k0 hb3
    have e3 := bl_call kb hb3
    clear k0 k1 kb
    have hb4 := bl1 w3 (.cells #[.slice (some ⟨ga, 0, none⟩) L.length L.length] 26)
    have l1' := cellk l1 hb4
    go_wp2_with fail
    refine (toShape_any _ M _ (H'.out.keep (bl_call e3 hb4)) HM.out).mono ?_
    rintro e w4 ⟨vb, rfl, hB, hb5⟩
    obtain ⟨gb, hgb, _⟩ := id hB
    subst hgb
    have hA4 := (hA.keep hb4).keep hb5
    have m0 := cellk (cellk l0 hb4) hb5
    have m1 := cellk (cellk l1 hb4) hb5
    have m2 := cellk (box1 w3 (.slice (some ⟨ga, 0, none⟩) L.length L.length) 26) hb5
    have e5 := bl_call (bl_call e3 hb4) hb5
    clear l0 l1 l1' e3 hb4 hb5 hA
    have hb6 := bl1 w4 (.cells #[.slice (some ⟨gb, 0, none⟩) M.length M.length] 26)
    have n0 := cellk m0 hb6
    have n1 := cellk m1 hb6
    have n2 := cellk m2 hb6
    have n3 := box1 w4 (.slice (some ⟨gb, 0, none⟩) M.length M.length) 26
    have hA6 := (hA4.keep hb6).nodes
    have hB6 := (hB.keep hb6).nodes
    have e6 := bl_call e5 hb6
    clear m0 m1 m2 hA4 hB e5 hb6
    go_wp2_with fail
    refine (SameShape_any _ _ L M _ hA6 hB6 HL.out).mono ?_
    rintro e w5 ⟨rfl, hb7⟩
    have o0 := cellk n0 hb7
    have o1 := cellk n1 hb7
    have o2 := cellk n2 hb7
    have o3 := cellk n3 hb7
    have hA7 := hA6.keep hb7
    have hB7 := hB6.keep hb7
    have e7 := bl_call e6 hb7
    clear n0 n1 n2 n3 hA6 hB6 e6 hb7
    have hq := beq_self_bool (sameN L M)
    go_upto_region 14 with fail
    have HS0 := Lib.hid (show w5.drew.cell? ⟨w.heap.size, 0, none⟩ = some (.slice av L.length cv) ∧ w5.drew.cell? ⟨w.heap.size + 1, 0, none⟩ = some (.slice au M.length cu) ∧ w5.drew.cell? ⟨w3.heap.size, 0, none⟩ = some (.slice (some ⟨ga, 0, none⟩) L.length L.length) ∧ w5.drew.cell? ⟨w4.heap.size, 0, none⟩ = some (.slice (some ⟨gb, 0, none⟩) M.length M.length) ∧ NodesIn w5.drew (.slice (some ⟨ga, 0, none⟩) L.length L.length) L ∧ NodesIn w5.drew (.slice (some ⟨gb, 0, none⟩) M.length M.length) M ∧ Below w.heap.size w w5.drew from ⟨o0, o1, o2, o3, hA7, hB7, bl_drew e7⟩)
    clear o0 o1 o2 o3 hA7 hB7 e7
    go_cut [39] (fun s39 wx => s39 = .bool false ∧ wx.cell? ⟨w.heap.size, 0, none⟩ = some (.slice av L.length cv) ∧ wx.cell? ⟨w.heap.size + 1, 0, none⟩ = some (.slice au M.length cu) ∧ wx.cell? ⟨w3.heap.size, 0, none⟩ = some (.slice (some ⟨ga, 0, none⟩) L.length L.length) ∧ wx.cell? ⟨w4.heap.size, 0, none⟩ = some (.slice (some ⟨gb, 0, none⟩) M.length M.length) ∧ NodesIn wx (.slice (some ⟨ga, 0, none⟩) L.length L.length) L ∧ NodesIn wx (.slice (some ⟨gb, 0, none⟩) M.length M.length) M ∧ Below w.heap.size w wx)
    case first =>
      go_region_held3 (fun wx => wx.cell? ⟨w.heap.size, 0, none⟩ = some (.slice av L.length cv) ∧ wx.cell? ⟨w.heap.size + 1, 0, none⟩ = some (.slice au M.length cu) ∧ wx.cell? ⟨w3.heap.size, 0, none⟩ = some (.slice (some ⟨ga, 0, none⟩) L.length L.length) ∧ wx.cell? ⟨w4.heap.size, 0, none⟩ = some (.slice (some ⟨gb, 0, none⟩) M.length M.length) ∧ NodesIn wx (.slice (some ⟨ga, 0, none⟩) L.length L.length) L ∧ NodesIn wx (.slice (some ⟨gb, 0, none⟩) M.length M.length) M ∧ Below w.heap.size w wx) (first | exact HS0.out | exact keepB (by assumption) (by assumption)) (first | (go_at_call 24; refine (toShape_any _ L _ (H.out.keep (And.right (And.right (And.right (And.right (And.right (And.right (by assumption)))))))) HL.out).mono ?_; rintro e wa ⟨va, rfl, hA, hba⟩; obtain ⟨ga', hga, _⟩ := id hA; subst hga) | (go_at_call 17; refine (eqShape_true _ _ L _ (And.left (And.right (And.right (And.right (And.right (by assumption)))))) hA.nodes HL.out).mono ?_; rintro e wd ⟨rfl, hbd⟩))
      all_goals (go_wp2_with fail; go_meet; exact ⟨rfl, by assumption⟩)
    case rest =>
      obtain ⟨rfl, hT⟩ := hcut
      clear HS0
      obtain ⟨p0, p1, p2, p3, q1, q2, q3⟩ := id hT
      have HS1 := Lib.hid (keepB hT (bl_drew (bl_refl _)))
      clear hT
      go_upto_region 16 with fail
      go_cut [44] (fun s44 wx => s44 = .bool false ∧ Below w.heap.size w wx)
      case first =>
        clear p0 p1 p2 p3 q1 q2 q3
        go_region_held3 (fun wx => wx.cell? ⟨w.heap.size, 0, none⟩ = some (.slice av L.length cv) ∧ wx.cell? ⟨w.heap.size + 1, 0, none⟩ = some (.slice au M.length cu) ∧ wx.cell? ⟨w3.heap.size, 0, none⟩ = some (.slice (some ⟨ga, 0, none⟩) L.length L.length) ∧ wx.cell? ⟨w4.heap.size, 0, none⟩ = some (.slice (some ⟨gb, 0, none⟩) M.length M.length) ∧ NodesIn wx (.slice (some ⟨ga, 0, none⟩) L.length L.length) L ∧ NodesIn wx (.slice (some ⟨gb, 0, none⟩) M.length M.length) M ∧ Below w.heap.size w wx) (first | exact HS1.out | exact keepB (by assumption) (by assumption)) (first | (go_at_call 24; refine (toShape_any _ M _ (H'.out.keep (And.right (And.right (And.right (And.right (And.right (And.right (by assumption)))))))) HM.out).mono ?_; rintro e wa ⟨va, rfl, hA, hba⟩; obtain ⟨ga', hga, _⟩ := id hA; subst hga) | (go_at_call 17; refine (eqShape_true _ _ M _ (And.left (And.right (And.right (And.right (And.right (And.right (by assumption))))))) hA.nodes HM.out).mono ?_; rintro e wd ⟨rfl, hbd⟩))
        all_goals (go_wp2_with fail; go_meet; exact ⟨rfl, And.right (And.right (And.right (And.right (And.right (And.right (by assumption))))))⟩)
      case rest =>
        obtain ⟨rfl, hE⟩ := hcut
        go_wp2_with fail
        go_ret
        exact ⟨rfl, hE⟩

theorem own : ownKnob Try.prog.godebug = none := by kernel_rfl
theorem laidOut : laidOutB Try.prog = true := by kernel_rfl

set_option maxRecDepth 100000 in
theorem lifted (os : Os) (started : os.Started) (H : Type) (enc : TypeId × Value → H) :
    ReturnsInHanded {} Try.checked os 4 .any (Rows.fnExactSameShapeSpec.pre6 enc Try.prog Try.f4 Rows.fnExactSameShapeRow.domain false) (Rows.fnExactSameShapeSpec.post enc Try.prog Try.f4 false true false false) := by
  refine returnsInHanded_of_change (C := Try.checked) own started (by kernel_rfl) Try.func4
    (ChangeSpec.witness6 (enc := enc) (C := Try.checked) false ⟨#[], #[.agg #[.slice none 0 0], .agg #[.slice none 0 0]], []⟩ 8 (by kernel_rfl) (by kernel_rfl) (by kernel_rfl) (by kernel_rfl)) ?_
  intro W base args ds gs before hval0 hW hcnd _
  have hval : ∀ (j : Nat) t v, Try.f4.params[j]? = some t → args[j]? = some v → Value.okWide Try.prog W .any base t v := hval0
  have hW' := hW
  obtain ⟨p, q, hA0, hV, rfl, hfz, hnd⟩ := hW
  have hA : DataW.TrodAll enc Try.prog W 0 (fun _ => true) true Try.f4.params.toList args.toList ds p := hA0
  rw [Try.params4] at hA hval
  obtain ⟨v0, vs0, d0, ds0, p0, q0, hargs, rfl, rfl, h0, r0⟩ := trodAll_cons hA
  obtain ⟨v1, vs1, d1, ds1, p1, q1, rfl, rfl, rfl, h1, r1⟩ := trodAll_cons r0
  obtain ⟨rfl, rfl, rfl⟩ := trodAll_nil r1
  obtain rfl : args = #[v0, v1] := by cases args; simp_all
  obtain ⟨rfl, rfl⟩ := trodVars_none hV
  have k0 := h0
  have lt0 : ∀ x ∈ p0, x.block < W.heap.size := by obtain ⟨m, hm⟩ := k0; exact DataW.trod_lt m _ _ _ hm
  have k1 := h1
  have lt1 : ∀ x ∈ p1, x.block < W.heap.size := by obtain ⟨m, hm⟩ := k1; exact DataW.trod_lt m _ _ _ hm
  obtain ⟨sv0, L0, rfl, w0, s0⟩ := open_shape Try.underlying38 (by kernel_rfl) (by kernel_rfl) rfl Try.underlying36 Try.underlying107 (by kernel_rfl) (by kernel_rfl) Try.underlying2 Try.underlying2 Try.underlying2 Try.underlying46 Try.underlying61 (by kernel_rfl) (hval 0 38 v0 rfl rfl) h0
  obtain ⟨sv1, L1, rfl, w1, s1⟩ := open_shape Try.underlying38 (by kernel_rfl) (by kernel_rfl) rfl Try.underlying36 Try.underlying107 (by kernel_rfl) (by kernel_rfl) Try.underlying2 Try.underlying2 Try.underlying2 Try.underlying46 Try.underlying61 (by kernel_rfl) (hval 1 38 v1 rfl rfl) h1
  clear hA0 hval0
  refine (walk sv0 L0 sv1 L1 W w0 s0 w1 s1).mono fun e W' ⟨he, bel⟩ => ?_
  subst he
  exact ⟨_, rfl, _, _, _, [], _, [], hW', trodAll_mk1 (shut_bool Try.underlying4 _), (trodAll_cons_mk (Below.trod laidOut (by kernel_rfl) (of_decide_eq_true (by kernel_rfl)) k0 bel lt0) (trodAll_cons_mk (Below.trod laidOut (by kernel_rfl) (of_decide_eq_true (by kernel_rfl)) k1 bel lt1) trodAll_mk0)), rfl, bel.frame _, fun h => by cases h⟩

theorem over : Rows.fnExactSameShapeRow.holds Try.pinned (OpenSpec.ofChange Rows.fnExactSameShapeSpec) :=
  OpenClaim.holds_of_wide 4 Try.f4 rfl rfl rfl rfl rfl rfl rfl ⟨rfl, rfl, rfl, rfl, rfl⟩ rfl rfl rfl rfl rfl (by kernel_rfl) Try.func4 (by kernel_rfl)
    (of_decide_eq_true (by kernel_rfl)) (by unfold Func.isWrapper; first | (rw [if_pos (by decide +kernel)]; kernel_rfl) | (rw [if_neg (by decide +kernel)]; exact ⟨rfl, rfl⟩))
    (fun os started H enc _ => lifted os started H enc)

theorem proved : Rows.FnExactSameShapeSaid := over
#print axioms proved
end Go.Proofs.Ytpbccoobkmahlaa.lawSameShape
