/- The law FnExactDotNumbers returns true for every two lists of numbers. No conditions. -/
import Derived.Test.YtddfgopgcglldaaDot
import Derived.Test.YtddfgopgcglldaaOpen
namespace Go.Proofs.Ytddfgopgcglldaa.lawDotNumbers
open Go.ChangeShapes Go.WideShapes Go.ChangeAt Go.RowKit
open Go.Fl
set_option linter.unusedVariables false

set_option maxHeartbeats 1000000 in
theorem walk (v : Value) (xs : List Nat) (u : Value) (ys : List Nat) (w : World) (hx : FIn w v xs) (hy : FIn w u ys) : Calls Try.prog 9 #[v, u] w fun e w' => e = .returned (.bool true) ∧ Below w.heap.size w w' := by
  have gx := hx
  have gy := hy
  obtain ⟨a, cap, rfl, _⟩ := gx
  obtain ⟨a', cap', rfl, _⟩ := gy
  by_cases nx : xs.length ≤ 1048576
  · have hd : decide ((1048576 : Int) < xs.length) = false := by simp; omega
    by_cases ny : ys.length ≤ 1048576
    · have hd' : decide ((1048576 : Int) < ys.length) = false := by simp; omega
      go_enter Try.func9, Try.ntmps9
      go_wp2_with fail
      refine (toFloat32S_any _ _ _ hx nx).mono ?_
      rintro e w0 ⟨g0, rfl, _, ho0, hb0⟩
      have h0 := FIn_of_row rfl ho0
      go_wp2_with fail
      refine (toFloat32S_any _ _ _ (hy.keep hb0) ny).mono ?_
      rintro e w1 ⟨g1, rfl, _, ho1, hb1⟩
      have h1 := FIn_of_row rfl ho1
      go_wp2_with fail
      refine (spec_DotNumbers_any _ _ _ _ _ (h0.keep hb1) h1 nx).mono ?_
      rintro e w2 ⟨he, n2, rfl⟩
      have e2 := bl_drewN (bl_call hb0 hb1) n2
      cases ho : dotO xs ys with
      | some o =>
        rw [ho] at he
        obtain ⟨r, hr, rfl⟩ := he
        go_wp2_with fail
        refine (toFloat32S_any _ _ _ (hx.keep e2) nx).mono ?_
        rintro e w3 ⟨g3, rfl, _, ho3, hb3⟩
        have h3 := FIn_of_row rfl ho3
        have e3 := bl_call e2 hb3
        go_wp2_with fail
        refine (toFloat32S_any _ _ _ (hy.keep e3) ny).mono ?_
        rintro e w4 ⟨g4, rfl, _, ho4, hb4⟩
        have h4 := FIn_of_row rfl ho4
        have h3' := h3.keep hb4
        have e4 := bl_call e3 hb4
        go_wp2_with fail
        refine (DotNumbers_any _ _ _ _ _ h3' h4 nx).mono ?_
        rintro e w5 ⟨he, n5, rfl⟩
        rw [ho] at he
        obtain ⟨r', hr', rfl⟩ := he
        go_wp2_with (first | ((with_reducible refine wpList_widen ?_); refine ⟨_, ⟨rfl, rfl, by rw [Try.underlying22]; rfl, Try.underlying31⟩, ?_⟩; intro q n hq) | (go_at_call 20; refine (sameFloat_true _ _ (wide_eq (by assumption) (by assumption) (Is.same (by assumption) (by assumption))) _).mono ?_; rintro e w' ⟨rfl, n, rfl⟩))
        refine (toFloat32S_any _ _ _ (hx.keep (bl_drewN e4 _)) nx).mono ?_
        rintro e w6 ⟨g6, rfl, _, ho6, hb6⟩
        have h6 := FIn_of_row rfl ho6
        have h3'' := (h3'.drewN _).keep hb6
        have h4' := (h4.drewN _).keep hb6
        have e6 := bl_call (bl_drewN e4 _) hb6
        go_wp2_with fail
        refine (eqFloat32S_true _ _ _ _ h3'' h6 nx).mono ?_
        rintro e w' ⟨rfl, n6, rfl⟩
        go_wp2_with fail
        refine (toFloat32S_any _ _ _ (hy.keep (bl_drewN e6 _)) ny).mono ?_
        rintro e w7 ⟨g7, rfl, _, ho7, hb7⟩
        have h7 := FIn_of_row rfl ho7
        have h4'' := (h4'.drewN _).keep hb7
        have e7 := bl_call (bl_drewN e6 _) hb7
        go_wp2_with fail
        refine (eqFloat32S_true _ _ _ _ h4'' h7 ny).mono ?_
        rintro e w' ⟨rfl, n7, rfl⟩
        go_wp2_with fail
        go_ret
        exact ⟨rfl, bl_drewN e7 _⟩
      | none =>
        rw [ho] at he
        obtain rfl := he
        go_wp2_with fail
        refine (toFloat32S_any _ _ _ (hx.keep e2) nx).mono ?_
        rintro e w3 ⟨g3, rfl, _, ho3, hb3⟩
        have h3 := FIn_of_row rfl ho3
        have e3 := bl_call e2 hb3
        go_wp2_with fail
        refine (toFloat32S_any _ _ _ (hy.keep e3) ny).mono ?_
        rintro e w4 ⟨g4, rfl, _, ho4, hb4⟩
        have h4 := FIn_of_row rfl ho4
        have h3' := h3.keep hb4
        have e4 := bl_call e3 hb4
        go_wp2_with fail
        refine (DotNumbers_any _ _ _ _ _ h3' h4 nx).mono ?_
        rintro e w5 ⟨he, n5, rfl⟩
        rw [ho] at he
        obtain rfl := he
        go_wp2_with (first | ((with_reducible refine wpList_widen ?_); refine ⟨_, ⟨rfl, rfl, by rw [Try.underlying22]; rfl, Try.underlying31⟩, ?_⟩; intro q n hq) | (go_at_call 20; refine (sameFloat_true _ _ (wide_eq (by assumption) (by assumption) (rfl)) _).mono ?_; rintro e w' ⟨rfl, n, rfl⟩))
        refine (toFloat32S_any _ _ _ (hx.keep (bl_drewN e4 _)) nx).mono ?_
        rintro e w6 ⟨g6, rfl, _, ho6, hb6⟩
        have h6 := FIn_of_row rfl ho6
        have h3'' := (h3'.drewN _).keep hb6
        have h4' := (h4.drewN _).keep hb6
        have e6 := bl_call (bl_drewN e4 _) hb6
        go_wp2_with fail
        refine (eqFloat32S_true _ _ _ _ h3'' h6 nx).mono ?_
        rintro e w' ⟨rfl, n6, rfl⟩
        go_wp2_with fail
        refine (toFloat32S_any _ _ _ (hy.keep (bl_drewN e6 _)) ny).mono ?_
        rintro e w7 ⟨g7, rfl, _, ho7, hb7⟩
        have h7 := FIn_of_row rfl ho7
        have h4'' := (h4'.drewN _).keep hb7
        have e7 := bl_call (bl_drewN e6 _) hb7
        go_wp2_with fail
        refine (eqFloat32S_true _ _ _ _ h4'' h7 ny).mono ?_
        rintro e w' ⟨rfl, n7, rfl⟩
        go_wp2_with fail
        go_ret
        exact ⟨rfl, bl_drewN e7 _⟩
    · have hd' : decide ((1048576 : Int) < ys.length) = true := by simp; omega
      go_enter Try.func9, Try.ntmps9
      go_wp2_with fail
      go_ret
      exact ⟨rfl, bl_refl _⟩
  · have hd : decide ((1048576 : Int) < xs.length) = true := by simp; omega
    go_enter Try.func9, Try.ntmps9
    go_wp2_with fail
    go_ret
    exact ⟨rfl, bl_refl _⟩

theorem own : ownKnob Try.prog.godebug = none := by kernel_rfl
theorem laidOut : laidOutB Try.prog = true := by kernel_rfl

set_option maxRecDepth 100000 in
theorem lifted (os : Os) (started : os.Started) (H : Type) (enc : TypeId × Value → H) :
    ReturnsInHanded {} Try.checked os 9 .any (Rows.fnExactDotNumbersSpec.pre6 enc Try.prog Try.f9 Rows.fnExactDotNumbersRow.domain false) (Rows.fnExactDotNumbersSpec.post enc Try.prog Try.f9 false true false false) := by
  refine returnsInHanded_of_change (C := Try.checked) own started (by kernel_rfl) Try.func9
    (ChangeSpec.witness6 (enc := enc) (C := Try.checked) false ⟨#[], #[.slice none 0 0, .slice none 0 0], []⟩ 8 (by kernel_rfl) (by kernel_rfl) (by kernel_rfl) (by kernel_rfl)) ?_
  intro W base args ds gs before hval0 hW hcnd _
  have hval : ∀ (j : Nat) t v, Try.f9.params[j]? = some t → args[j]? = some v → Value.okWide Try.prog W .any base t v := hval0
  have hW' := hW
  obtain ⟨p, q, hA0, hV, rfl, hfz, hnd⟩ := hW
  have hA : DataW.TrodAll enc Try.prog W 0 (fun _ => true) true Try.f9.params.toList args.toList ds p := hA0
  rw [Try.params9] at hA hval
  obtain ⟨v0, vs0, d0, ds0, p0, q0, hargs, rfl, rfl, h0, r0⟩ := trodAll_cons hA
  obtain ⟨v1, vs1, d1, ds1, p1, q1, rfl, rfl, rfl, h1, r1⟩ := trodAll_cons r0
  obtain ⟨rfl, rfl, rfl⟩ := trodAll_nil r1
  obtain rfl : args = #[v0, v1] := by cases args; simp_all
  obtain ⟨rfl, rfl⟩ := trodVars_none hV
  have k0 := h0
  have lt0 : ∀ x ∈ p0, x.block < W.heap.size := by obtain ⟨m, hm⟩ := k0; exact DataW.trod_lt m _ _ _ hm
  have k1 := h1
  have lt1 : ∀ x ∈ p1, x.block < W.heap.size := by obtain ⟨m, hm⟩ := k1; exact DataW.trod_lt m _ _ _ hm
  obtain ⟨xs0, w0⟩ := open_f32s Try.underlying40 Try.underlying22 (by kernel_rfl) (hval 0 40 v0 rfl rfl) h0
  obtain ⟨xs1, w1⟩ := open_f32s Try.underlying40 Try.underlying22 (by kernel_rfl) (hval 1 40 v1 rfl rfl) h1
  clear hA0 hval0
  refine (walk v0 xs0 v1 xs1 W w0 w1).mono fun e W' ⟨he, bel⟩ => ?_
  subst he
  exact ⟨_, rfl, _, _, _, [], _, [], hW', trodAll_mk1 (shut_bool Try.underlying4 _), (trodAll_cons_mk (Below.trod laidOut (by kernel_rfl) (of_decide_eq_true (by kernel_rfl)) k0 bel lt0) (trodAll_cons_mk (Below.trod laidOut (by kernel_rfl) (of_decide_eq_true (by kernel_rfl)) k1 bel lt1) trodAll_mk0)), rfl, bel.frame _, fun h => by cases h⟩

theorem over : Rows.fnExactDotNumbersRow.holds Try.pinned (OpenSpec.ofChange Rows.fnExactDotNumbersSpec) :=
  OpenClaim.holds_of_wide 9 Try.f9 rfl rfl rfl rfl rfl rfl rfl ⟨rfl, rfl, rfl, rfl, rfl⟩ rfl rfl rfl rfl rfl (by kernel_rfl) Try.func9 (by kernel_rfl)
    (of_decide_eq_true (by kernel_rfl)) (by unfold Func.isWrapper; first | (rw [if_pos (by decide +kernel)]; kernel_rfl) | (rw [if_neg (by decide +kernel)]; exact ⟨rfl, rfl⟩))
    (fun os started H enc _ => lifted os started H enc)

theorem proved : Rows.FnExactDotNumbersSaid := over
#print axioms proved
end Go.Proofs.Ytddfgopgcglldaa.lawDotNumbers
