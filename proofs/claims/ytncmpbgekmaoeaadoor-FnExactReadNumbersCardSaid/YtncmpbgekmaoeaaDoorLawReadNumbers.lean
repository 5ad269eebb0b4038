/- The law FnExactReadNumbers returns true for every text. Its row lists tables and errors; no other condition. -/
import Derived.Test.YtncmpbgekmaoeaaDoorRNum
import Derived.Test.YtncmpbgekmaoeaaDoorMarkF
import Derived.Test.YtncmpbgekmaoeaaDoorWrap
import Derived.Test.YtncmpbgekmaoeaaDoorCards
import Derived.Test.YtncmpbgekmaoeaaDoorTie
import Derived.ProofKit
import Derived.LaidMore
import Derived.Lay
import Derived.OpenShut
import Derived.Stop.Joined
import Derived.Stop.LaidErr
import Derived.SevenTiedAt
import Derived.LaidByTextLater
namespace Go.Proofs.YtncmpbgekmaoeaaDoor.lawReadNumbers
open Go.ChangeShapes Go.WideShapes Go.ChangeAt Go.RowKit
open Go.Fl
set_option linter.unusedVariables false

theorem of_laid {W : World} (h : laidMetH Tryd.prog Rows.fnExactReadNumbersRow.laid W) (hs : W.ShapedOpen Tryd.prog) : W.ShapedOpen Tryd.prog := hs

theorem below_grown {w w' : World} (h : Below w.heap.size w w') (row : Option Nat) : w.grownBy w' row := ⟨h.os, h.tape, h.output, h.size, fun k hk _ => h.block k hk⟩
theorem own_keep {w w' : World} {B n s : Nat} {e : TypeId} {v : Value} {xs : List Value} (h : w.ownsRow B e s v n xs) (hb : Below w.heap.size w w') : w'.ownsRow B e s v n xs :=
  h.kept (below_grown hb none) (by cases v.ownBlock <;> simp)
theorem un_drewN {w w' : World} {n : Nat} (h : Below (w.drewN n).heap.size (w.drewN n) w') : Below w.heap.size w w' := ⟨h.os, h.tape, h.output, h.size, h.block⟩
theorem own_drewN {w : World} {B n s : Nat} {e : TypeId} {v : Value} {xs : List Value} (h : w.ownsRow B e s v n xs) (m : Nat) : (w.drewN m).ownsRow B e s v n xs := h
theorem grown_of_drewN {w w' : World} {n : Nat} {row : Option Nat} (h : (w.drewN n).grownBy w' row) : w.grownBy w' row := ⟨h.os, h.tape, h.output, h.size, h.block⟩
theorem markedF_one (v : Value) (zs : List Nat) (n B : Nat) (w : World) (hnz : n = zs.length) (h : w.ownsRow B 36 1 v n (zs.map (Value.float .f32))) (hn : 1 + n ≤ 1073741824) : Calls Tryd.prog 27 #[v, .int .i64 1] w
    fun e w' => e = .returned (.int .i64 ((1 + n : Nat) : Int)) ∧ w'.ownsRow B 36 1 v n ((fmarks 1 n).map (Value.float .f32)) ∧ w.grownBy w' v.ownBlock := markFloat32S_any v zs 1 n B w hnz h hn
theorem own_apart {w w' : World} {B B' n n' s s' : Nat} {e e' : TypeId} {v u : Value} {xs ys : List Value} (h : w.ownsRow B e s v n xs) (h' : w'.ownsRow B' e' s' u n' ys) (hb : w.heap.size ≤ B') : v.ownBlock = none ∨ v.ownBlock ≠ u.ownBlock := by
  cases hv : v.ownBlock with
  | none => exact .inl rfl
  | some k => exact .inr (fun e => by have := (h.lt k hv).2; have := (h'.lt k (by rw [← e])).1; omega)
theorem own_apart' {w w' : World} {B B' n n' s s' : Nat} {e e' : TypeId} {v u : Value} {xs ys : List Value} (h : w.ownsRow B e s v n xs) (h' : w'.ownsRow B' e' s' u n' ys) (hb : w.heap.size ≤ B') : u.ownBlock = none ∨ u.ownBlock ≠ v.ownBlock := by
  cases hv : u.ownBlock with
  | none => exact .inl rfl
  | some k => exact .inr (fun e => by have := (h'.lt k hv).1; have := (h.lt k e.symm).2; omega)
theorem bl_grown {w W w1 : World} {B n s : Nat} {e : TypeId} {v : Value} {xs : List Value} (h : Below w.heap.size w W) (hg : W.grownBy w1 v.ownBlock) (ho : W.ownsRow B e s v n xs) (hB : w.heap.size ≤ B) : Below w.heap.size w w1 :=
  h.grown hg h.size (fun k hk => Nat.le_trans hB (ho.lt k hk).1)

theorem nsN_len (P : List (List UInt8)) : (nsN P).length ≤ 256 := by
  unfold nsN
  split
  · rename_i h
    simp only [nsOk, Bool.and_eq_true, decide_eq_true_eq] at h
    rw [List.length_map]; exact h.2
  · simp
def Got (w : World) (ok : Bool) (Z : List Nat) : Ending → World → Prop := fun e w' => ∃ v, e = .returned (.tuple #[v, .bool ok]) ∧ w'.ownsRow w.heap.size 36 1 v Z.length (Z.map (Value.float .f32)) ∧ Below w.heap.size w w'
theorem spec_got (s : ByteArray) (hs : s.size ≤ 1048576) (ok : Bool) (Z : List Nat) (hok : RowKit.Hid (nsOk (partsOf s.data.toList) = ok)) (hZ : RowKit.Hid (nsN (partsOf s.data.toList) = Z)) (w : World) :
    Calls Tryd.prog 24 #[.string s] w (Got w ok Z) := by
  rw [← hok.out, ← hZ.out]; exact spec_ReadNumbers_any s hs w
theorem impl_got (s : ByteArray) (hs : s.size ≤ 1048576) (ok : Bool) (Z : List Nat) (hok : RowKit.Hid (nsOk (partsOf s.data.toList) = ok)) (hZ : RowKit.Hid (nsN (partsOf s.data.toList) = Z)) (w : World) (hw : w.ShapedOpen Tryd.prog) :
    Calls Tryd.prog 25 #[.string s] w (Got w ok Z) := by
  rw [← hok.out, ← hZ.out]; exact ReadNumbers_any s hs w hw

set_option maxHeartbeats 2000000 in
theorem walk (s : ByteArray) (hs : s.size ≤ maxLen) (w : World) (hw : w.ShapedOpen Tryd.prog) : Calls Tryd.prog 8 #[.string s] w fun e w' => e = .returned (.bool true) ∧ Below w.heap.size w w' := by
  unfold maxLen at hs
  by_cases hn : s.size ≤ 1048576
  · obtain ⟨ok, hok⟩ : ∃ ok, RowKit.Hid (nsOk (partsOf s.data.toList) = ok) := ⟨_, Lib.hid rfl⟩
    obtain ⟨Z, hZ⟩ : ∃ Z, RowKit.Hid (nsN (partsOf s.data.toList) = Z) := ⟨_, Lib.hid rfl⟩
    have hcl : Z.length ≤ 256 := by rw [← hZ.out]; exact nsN_len _
    have hneg : decide (((1 + Z.length : Nat) : Int) < 0) = false := by simp; omega
    go_enter Tryd.func8, Tryd.ntmps8
    go_wp2_with fail
    refine (spec_got s hn ok Z hok hZ _).mono ?_
    rintro e w2 ⟨v0, rfl, ho2, e2⟩
    go_wp2_with fail
    refine (impl_got s hn ok Z hok hZ _ (shaped_below hw e2)).mono ?_
    rintro e w4 ⟨v4, rfl, ho4, hb4⟩
    have e4 := bl_call e2 hb4
    have k0 := own_keep ho2 hb4
    go_wp2_with fail
    refine (eqFloat32S_true _ _ Z _ (FIn_of_own rfl ho4) (FIn_of_own rfl k0) (by omega)).mono ?_
    rintro e w' ⟨rfl, n5, rfl⟩
    go_wp2_with fail
    refine (markedF_one _ Z _ _ _ rfl (own_drewN ho4 _) (by omega)).mono ?_
    rintro e w10 ⟨rfl, ho10, hg10⟩
    have hg10' := grown_of_drewN hg10
    have e10 := bl_grown e4 hg10' ho4 e2.size
    have z0 := k0.kept hg10' (own_apart ho2 ho4 (Nat.le_refl _))
    clear hg10 hg10' k0
    go_wp2_with fail
    refine (heldFloat32S_one _ _ _ (FIn_of_own (fmarks_len _ _).symm ho10) (by omega)).mono ?_
    rintro e w' ⟨rfl, n11, rfl⟩
    go_wp2_with fail
    refine (impl_got s hn ok Z hok hZ _ (shaped_below hw (bl_drewN e10 _))).mono ?_
    rintro e w13 ⟨v13, rfl, ho13, hb13⟩
    have e13 := bl_call (bl_drewN e10 n11) hb13
    have hb13' := un_drewN hb13
    have q0 := own_keep z0 hb13'
    have q10 := own_keep ho10 hb13'
    go_wp2_with fail
    refine (eqFloat32S_true _ _ Z _ (FIn_of_own rfl ho13) (FIn_of_own rfl q0) (by omega)).mono ?_
    rintro e w' ⟨rfl, n14, rfl⟩
    go_wp2_with fail
    refine (heldFloat32S_one _ _ _ (FIn_of_own (fmarks_len _ _).symm (own_drewN q10 _)) (by omega)).mono ?_
    rintro e w' ⟨rfl, n15, rfl⟩
    go_wp2_with fail
    go_ret
    exact ⟨rfl, bl_drewN e13 _⟩
  · go_enter Tryd.func8, Tryd.ntmps8
    go_wp2
    go_ret
    exact ⟨rfl, bl_refl _⟩

theorem own : ownKnob Tryd.prog.godebug = none := by kernel_rfl
theorem laidOut : laidOutB Tryd.prog = true := by kernel_rfl

theorem door_met (os : Os) (args : Array Value) : laidMetH Tryd.prog Rows.fnExactReadNumbersRow.laid ((World.laidAll Tryd.prog os Rows.fnExactReadNumbersRow.laid).forCall (fun _ _ => 0) ⟨#[], args, []⟩).memory :=
  by rw [MakeChecks.laidMetH_plain _ _ _ (by kernel_rfl)]; exact laidMet_laidAll _ (by kernel_rfl) (by kernel_rfl)

set_option maxRecDepth 100000 in
theorem lifted (os : Os) (started : os.Started) (H : Type) (enc : TypeId × Value → H) :
    ReturnsInHanded {} Tryd.checked os 8 .any (fun w args => (Rows.fnExactReadNumbersSpec.pre enc Tryd.prog Tryd.f8 [] false w args ∧ laidMetH Tryd.prog Rows.fnExactReadNumbersRow.laid w) ∧ sizedMet enc Tryd.prog Tryd.f8 (OpenSpec.ofChange Rows.fnExactReadNumbersSpec) false w args) (Rows.fnExactReadNumbersSpec.post enc Tryd.prog Tryd.f8 false true false false) := by
  refine returns_of_change_and_shaped (C := Tryd.checked) (X := fun w _ => laidMetH Tryd.prog Rows.fnExactReadNumbersRow.laid w) (fun _ _ _ hh h => h.of_heap hh) own started (by kernel_rfl) Tryd.func8
    (ChangeSpec.witness_shaped (enc := enc) (C := Tryd.checked) (os := os) (X := fun w _ => laidMetH Tryd.prog Rows.fnExactReadNumbersRow.laid w) false (World.laidAll Tryd.prog os Rows.fnExactReadNumbersRow.laid) #[.string ByteArray.empty] 8 (World.laidAll_os _ _ _) (World.shaped_of_ZipB (by kernel_rfl) (by kernel_rfl)) (by kernel_rfl) (by kernel_rfl) (by kernel_rfl) (door_met os _)) ?_
  intro W base args ds gs before hval0 hW _ _ hSh hL _
  have hF := of_laid hL hSh
  have hval : ∀ (j : Nat) t v, Tryd.f8.params[j]? = some t → args[j]? = some v → Value.okWide Tryd.prog W .any base t v := hval0
  have hW' := hW
  obtain ⟨p, q, hA0, hV, rfl, hfz, hnd⟩ := hW
  have hA : DataW.TrodAll enc Tryd.prog W 0 (fun _ => true) true Tryd.f8.params.toList args.toList ds p := hA0
  rw [Tryd.params8] at hA hval
  obtain ⟨v0, vs0, d0, ds0, p0, q0, hargs, rfl, rfl, h0, r0⟩ := trodAll_cons hA
  obtain ⟨rfl, rfl, rfl⟩ := trodAll_nil r0
  obtain rfl : args = #[v0] := by cases args; simp_all
  obtain ⟨rfl, rfl⟩ := trodVars_none hV
  have k0 := h0
  have lt0 : ∀ x ∈ p0, x.block < W.heap.size := by obtain ⟨m, hm⟩ := k0; exact DataW.trod_lt m _ _ _ hm
  obtain ⟨a0, rfl, rfl, rfl, w0⟩ := ChangeMaps.open_string Tryd.underlying9 (hval 0 9 v0 rfl rfl) h0
  clear hA0 hval0
  refine (walk a0 w0 W hF).mono fun e W' ⟨he, bel⟩ => ?_
  subst he
  exact ⟨_, rfl, _, _, _, [], _, [], hW', trodAll_mk1 (shut_bool Tryd.underlying4 _), (trodAll_cons_mk (Below.trod laidOut (by kernel_rfl) (of_decide_eq_true (by kernel_rfl)) k0 bel lt0) trodAll_mk0), rfl, bel.frame _, fun h => by cases h⟩

theorem over : Rows.fnExactReadNumbersRow.holds Tryd.pinned (OpenSpec.ofChange Rows.fnExactReadNumbersSpec) :=
  OpenClaim.holds_of_wide 8 Tryd.f8 rfl rfl rfl rfl rfl rfl rfl ⟨rfl, rfl, rfl, rfl, rfl⟩ rfl rfl rfl rfl rfl (by kernel_rfl) Tryd.func8 (by kernel_rfl)
    (of_decide_eq_true (by kernel_rfl)) (by unfold Func.isWrapper; first | (rw [if_pos (by decide +kernel)]; kernel_rfl) | (rw [if_neg (by decide +kernel)]; exact ⟨rfl, rfl⟩))
    (fun os started H enc _ => lifted os started H enc)

theorem proved : Rows.FnExactReadNumbersCardSaid :=
  Claim7.holds_tied_plain_at .later [] [.data, .pinned] true (true, "f77be98de1992fcbf6902f098e55151f27ebdd4f86c34f25a363123b3bac09d9") true
    over (fun _ h => by cases h) (by kernel_rfl) (fun _ h => by cases h) fnExactReadNumbers_row_tie rfl ⟨rfl, rfl⟩ (by kernel_rfl) rfl
    (fun f fn hf hfn => by
      obtain rfl : f = 8 := Option.some.inj ((show Tryd.prog.funcNamed "loop.example/g01193/laws.FnExactReadNumbers" = some 8 by kernel_rfl).symm.trans hf) |>.symm
      obtain rfl : fn = Tryd.f8 := (Option.some.inj (Tryd.func8.symm.trans hfn)).symm
      exact ⟨by kernel_rfl, fun j t ht => by
        rw [Tryd.params8] at ht
        have hm : t ∈ [9] := by simpa using Array.mem_of_getElem? ht
        have hall : ([9].all fun u => !Tryd.prog.wantsStandIn u) = true := by kernel_rfl
        exact (show Tryd.prog.wantsStandIn t = false by simpa using List.all_eq_true.1 hall t hm)⟩)
    (by kernel_rfl)
#print axioms proved
end Go.Proofs.YtncmpbgekmaoeaaDoor.lawReadNumbers
