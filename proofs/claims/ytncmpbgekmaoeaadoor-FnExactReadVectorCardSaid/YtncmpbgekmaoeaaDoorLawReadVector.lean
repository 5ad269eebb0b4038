/- The law FnExactReadVector returns true for every text. Its row lists tables and errors; no other condition. -/
import Derived.Test.YtncmpbgekmaoeaaDoorRVec
import Derived.Test.YtncmpbgekmaoeaaDoorWrap
import Derived.Test.YtncmpbgekmaoeaaDoorCards
import Derived.Test.YtncmpbgekmaoeaaDoorTie
import Derived.ProofKit
import Derived.LaidMore
import Derived.Lay
import Derived.OpenShut
import Derived.Stop.Joined
import Derived.Stop.LaidErr
import Derived.SevenTiedAt
import Derived.LaidByTextLater
namespace Go.Proofs.YtncmpbgekmaoeaaDoor.lawReadVector
open Go.ChangeShapes Go.WideShapes Go.ChangeAt Go.RowKit
open Go.Fl
set_option linter.unusedVariables false

theorem of_laid {W : World} (h : laidMetH Tryd.prog Rows.fnExactReadVectorRow.laid W) (hs : W.ShapedOpen Tryd.prog) : W.ShapedOpen Tryd.prog := hs

set_option maxHeartbeats 2000000 in
theorem walk (s : ByteArray) (hs : s.size ≤ maxLen) (w : World) (hw : w.ShapedOpen Tryd.prog) : Calls Tryd.prog 7 #[.string s] w fun e w' => e = .returned (.bool true) ∧ Below w.heap.size w w' := by
  unfold maxLen at hs
  by_cases hn : s.size ≤ 1048576
  · obtain ⟨ok, hok⟩ : ∃ ok, RowKit.Hid (vOk (partsOf s.data.toList) = ok) := ⟨_, Lib.hid rfl⟩
    obtain ⟨x, hx⟩ : ∃ x, RowKit.Hid (vAt (partsOf s.data.toList) 0 = x) := ⟨_, Lib.hid rfl⟩
    obtain ⟨y, hy⟩ : ∃ x, RowKit.Hid (vAt (partsOf s.data.toList) 1 = x) := ⟨_, Lib.hid rfl⟩
    obtain ⟨z, hz⟩ : ∃ x, RowKit.Hid (vAt (partsOf s.data.toList) 2 = x) := ⟨_, Lib.hid rfl⟩
    have HS := Lib.hid (fun w => spec_ReadVector_any s hn w)
    have HI := Lib.hid (fun w h => ReadVector_any s hn w h)
    unfold RV at HS HI
    rw [hok.out, hx.out, hy.out, hz.out] at HS HI
    go_enter Tryd.func7, Tryd.ntmps7
    go_wp2_with fail
    refine (Calls.mono (by exact HS.out _) ?_)
    rintro e w1 ⟨rfl, e1⟩
    go_wp2_with fail
    refine (Calls.mono (by exact HI.out _ (shaped_below hw (bl_alloc e1 _))) ?_)
    rintro e w2 ⟨rfl, hb2⟩
    have e2 := bl_call (bl_alloc e1 _) hb2
    have hB := (Bl3.new w1 _ _ _).below hb2 (by simp)
    obtain ⟨a0, a1, a2⟩ := hB.cells
    have hsz := hb2.size
    have hne : w1.heap.size < w2.heap.size := by simp at hsz; omega
    have hne1 : ¬ w1.heap.size = w2.heap.size := by omega
    have hne2 : ¬ w2.heap.size = w1.heap.size := by omega
    go_wp2_with fail
    refine (eqVector_true _ _ _ _ _ _ rfl rfl rfl _).mono ?_
    rintro e w3 ⟨rfl, hb3⟩
    go_wp2_with fail
    go_ret
    exact ⟨rfl, bl_call (bl_alloc e2 _) hb3⟩
  · go_enter Tryd.func7, Tryd.ntmps7
    go_wp2
    go_ret
    exact ⟨rfl, bl_refl _⟩

theorem own : ownKnob Tryd.prog.godebug = none := by kernel_rfl
theorem laidOut : laidOutB Tryd.prog = true := by kernel_rfl

theorem door_met (os : Os) (args : Array Value) : laidMetH Tryd.prog Rows.fnExactReadVectorRow.laid ((World.laidAll Tryd.prog os Rows.fnExactReadVectorRow.laid).forCall (fun _ _ => 0) ⟨#[], args, []⟩).memory :=
  by rw [MakeChecks.laidMetH_plain _ _ _ (by kernel_rfl)]; exact laidMet_laidAll _ (by kernel_rfl) (by kernel_rfl)

set_option maxRecDepth 100000 in
theorem lifted (os : Os) (started : os.Started) (H : Type) (enc : TypeId × Value → H) :
    ReturnsInHanded {} Tryd.checked os 7 .any (fun w args => (Rows.fnExactReadVectorSpec.pre enc Tryd.prog Tryd.f7 [] false w args ∧ laidMetH Tryd.prog Rows.fnExactReadVectorRow.laid w) ∧ sizedMet enc Tryd.prog Tryd.f7 (OpenSpec.ofChange Rows.fnExactReadVectorSpec) false w args) (Rows.fnExactReadVectorSpec.post enc Tryd.prog Tryd.f7 false true false false) := by
  refine returns_of_change_and_shaped (C := Tryd.checked) (X := fun w _ => laidMetH Tryd.prog Rows.fnExactReadVectorRow.laid w) (fun _ _ _ hh h => h.of_heap hh) own started (by kernel_rfl) Tryd.func7
    (ChangeSpec.witness_shaped (enc := enc) (C := Tryd.checked) (os := os) (X := fun w _ => laidMetH Tryd.prog Rows.fnExactReadVectorRow.laid w) false (World.laidAll Tryd.prog os Rows.fnExactReadVectorRow.laid) #[.string ByteArray.empty] 8 (World.laidAll_os _ _ _) (World.shaped_of_ZipB (by kernel_rfl) (by kernel_rfl)) (by kernel_rfl) (by kernel_rfl) (by kernel_rfl) (door_met os _)) ?_
  intro W base args ds gs before hval0 hW _ _ hSh hL _
  have hF := of_laid hL hSh
  have hval : ∀ (j : Nat) t v, Tryd.f7.params[j]? = some t → args[j]? = some v → Value.okWide Tryd.prog W .any base t v := hval0
  have hW' := hW
  obtain ⟨p, q, hA0, hV, rfl, hfz, hnd⟩ := hW
  have hA : DataW.TrodAll enc Tryd.prog W 0 (fun _ => true) true Tryd.f7.params.toList args.toList ds p := hA0
  rw [Tryd.params7] at hA hval
  obtain ⟨v0, vs0, d0, ds0, p0, q0, hargs, rfl, rfl, h0, r0⟩ := trodAll_cons hA
  obtain ⟨rfl, rfl, rfl⟩ := trodAll_nil r0
  obtain rfl : args = #[v0] := by cases args; simp_all
  obtain ⟨rfl, rfl⟩ := trodVars_none hV
  have k0 := h0
  have lt0 : ∀ x ∈ p0, x.block < W.heap.size := by obtain ⟨m, hm⟩ := k0; exact DataW.trod_lt m _ _ _ hm
  obtain ⟨a0, rfl, rfl, rfl, w0⟩ := ChangeMaps.open_string Tryd.underlying9 (hval 0 9 v0 rfl rfl) h0
  clear hA0 hval0
  refine (walk a0 w0 W hF).mono fun e W' ⟨he, bel⟩ => ?_
  subst he
  exact ⟨_, rfl, _, _, _, [], _, [], hW', trodAll_mk1 (shut_bool Tryd.underlying4 _), (trodAll_cons_mk (Below.trod laidOut (by kernel_rfl) (of_decide_eq_true (by kernel_rfl)) k0 bel lt0) trodAll_mk0), rfl, bel.frame _, fun h => by cases h⟩

theorem over : Rows.fnExactReadVectorRow.holds Tryd.pinned (OpenSpec.ofChange Rows.fnExactReadVectorSpec) :=
  OpenClaim.holds_of_wide 7 Tryd.f7 rfl rfl rfl rfl rfl rfl rfl ⟨rfl, rfl, rfl, rfl, rfl⟩ rfl rfl rfl rfl rfl (by kernel_rfl) Tryd.func7 (by kernel_rfl)
    (of_decide_eq_true (by kernel_rfl)) (by unfold Func.isWrapper; first | (rw [if_pos (by decide +kernel)]; kernel_rfl) | (rw [if_neg (by decide +kernel)]; exact ⟨rfl, rfl⟩))
    (fun os started H enc _ => lifted os started H enc)

theorem proved : Rows.FnExactReadVectorCardSaid :=
  Claim7.holds_tied_plain_at .later [] [.data, .pinned] true (true, "f77be98de1992fcbf6902f098e55151f27ebdd4f86c34f25a363123b3bac09d9") true
    over (fun _ h => by cases h) (by kernel_rfl) (fun _ h => by cases h) fnExactReadVector_row_tie rfl ⟨rfl, rfl⟩ (by kernel_rfl) rfl
    (fun f fn hf hfn => by
      obtain rfl : f = 7 := Option.some.inj ((show Tryd.prog.funcNamed "loop.example/g01193/laws.FnExactReadVector" = some 7 by kernel_rfl).symm.trans hf) |>.symm
      obtain rfl : fn = Tryd.f7 := (Option.some.inj (Tryd.func7.symm.trans hfn)).symm
      exact ⟨by kernel_rfl, fun j t ht => by
        rw [Tryd.params7] at ht
        have hm : t ∈ [9] := by simpa using Array.mem_of_getElem? ht
        have hall : ([9].all fun u => !Tryd.prog.wantsStandIn u) = true := by kernel_rfl
        exact (show Tryd.prog.wantsStandIn t = false by simpa using List.all_eq_true.1 hall t hm)⟩)
    (by kernel_rfl)
#print axioms proved
end Go.Proofs.YtncmpbgekmaoeaaDoor.lawReadVector
