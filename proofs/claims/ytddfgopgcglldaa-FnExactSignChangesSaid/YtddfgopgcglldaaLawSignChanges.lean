/- The law FnExactSignChanges returns true for every list of numbers. No conditions. -/
import Derived.Test.YtddfgopgcglldaaSign
import Derived.Test.YtddfgopgcglldaaOpen
namespace Go.Proofs.Ytddfgopgcglldaa.lawSignChanges
open Go.ChangeShapes Go.WideShapes Go.ChangeAt Go.RowKit
open Go.Fl
set_option linter.unusedVariables false

theorem below_grown {w w' : World} (h : Below w.heap.size w w') (row : Option Nat) : w.grownBy w' row := ⟨h.os, h.tape, h.output, h.size, fun k hk _ => h.block k hk⟩
theorem own_keep {w w' : World} {B n s : Nat} {e : TypeId} {v : Value} {xs : List Value} (h : w.ownsRow B e s v n xs) (hb : Below w.heap.size w w') : w'.ownsRow B e s v n xs :=
  h.kept (below_grown hb none) (by cases v.ownBlock <;> simp)
theorem un_drewN {w w' : World} {n : Nat} (h : Below (w.drewN n).heap.size (w.drewN n) w') : Below w.heap.size w w' := ⟨h.os, h.tape, h.output, h.size, h.block⟩
theorem own_drewN {w : World} {B n s : Nat} {e : TypeId} {v : Value} {xs : List Value} (h : w.ownsRow B e s v n xs) (m : Nat) : (w.drewN m).ownsRow B e s v n xs := h
theorem grown_of_drewN {w w' : World} {n : Nat} {row : Option Nat} (h : (w.drewN n).grownBy w' row) : w.grownBy w' row := ⟨h.os, h.tape, h.output, h.size, h.block⟩
def Outcome (xs : List Nat) (ok : Bool) (Z : List Int) : Prop := (ok = true ∧ Z = chs xs (xs.length - 1) ∧ xs.length ≤ 256) ∨ (ok = false ∧ Z = [] ∧ ¬ xs.length ≤ 256)
theorem outcome (xs : List Nat) : ∃ ok Z, Outcome xs ok Z ∧ Z.length ≤ 256 := by
  by_cases h : xs.length ≤ 256
  · exact ⟨true, _, .inl ⟨rfl, rfl, h⟩, Nat.le_trans (chs_len _ _) (by omega)⟩
  · exact ⟨false, _, .inr ⟨rfl, rfl, h⟩, by simp⟩
theorem SignChanges_all (v : Value) (xs : List Nat) (ok : Bool) (Z : List Int) (w : World) (h : FIn w v xs) (H : Outcome xs ok Z) : Calls Try.prog 42 #[v] w
    fun e w' => ∃ v, e = .returned (.tuple #[v, .bool ok]) ∧ w'.ownsRow w.heap.size 2 1 v Z.length (Z.map (Value.int .i64)) ∧ Below w.heap.size w w' := by
  rcases H with ⟨rfl, rfl, hf⟩ | ⟨rfl, rfl, hf⟩
  · exact SignChanges_few v xs w h hf
  · refine (SignChanges_many v xs w h hf).mono ?_
    rintro e w' ⟨rfl, n, rfl⟩
    exact ⟨_, rfl, World.ownsRow_nil _ _ _ _, bl_drewN (bl_refl _) _⟩
theorem spec_SignChanges_all (v : Value) (xs : List Nat) (ok : Bool) (Z : List Int) (w : World) (h : FIn w v xs) (H : Outcome xs ok Z) : Calls Try.prog 41 #[v] w
    fun e w' => ∃ v, e = .returned (.tuple #[v, .bool ok]) ∧ w'.ownsRow w.heap.size 2 1 v Z.length (Z.map (Value.int .i64)) ∧ Below w.heap.size w w' := by
  rcases H with ⟨rfl, rfl, hf⟩ | ⟨rfl, rfl, hf⟩
  · exact spec_SignChanges_few v xs w h hf
  · refine (spec_SignChanges_many v xs w h hf).mono ?_
    rintro e w' ⟨rfl, n, rfl⟩
    exact ⟨_, rfl, World.ownsRow_nil _ _ _ _, bl_drewN (bl_refl _) _⟩
theorem held_one (v : Value) (n : Nat) (w : World) (h : IIn w v (marks 1 n)) (hn : 1 + n ≤ 1073741824) : Calls Try.prog 46 #[v, .int .i64 1] w (IOut w .i64 ((1 + n : Nat) : Int)) := heldInt64S_any v 1 n w h hn
theorem marked_one (v : Value) (zs : List Int) (n B : Nat) (w : World) (hnz : n = zs.length) (h : w.ownsRow B 2 1 v n (zs.map (Value.int .i64))) (hn : 1 + n ≤ 1073741824) : Calls Try.prog 45 #[v, .int .i64 1] w
    fun e w' => e = .returned (.int .i64 ((1 + n : Nat) : Int)) ∧ w'.ownsRow B 2 1 v n ((marks 1 n).map (Value.int .i64)) ∧ w.grownBy w' v.ownBlock := markInt64S_any v zs 1 n B w hnz h hn
theorem markedF_one (v : Value) (zs : List Nat) (n B : Nat) (w : World) (hnz : n = zs.length) (h : w.ownsRow B 22 1 v n (zs.map (Value.float .f32))) (hn : 1 + n ≤ 1073741824) : Calls Try.prog 44 #[v, .int .i64 1] w
    fun e w' => e = .returned (.int .i64 ((1 + n : Nat) : Int)) ∧ w'.ownsRow B 22 1 v n ((fmarks 1 n).map (Value.float .f32)) ∧ w.grownBy w' v.ownBlock := markFloat32S_any v zs 1 n B w hnz h hn
theorem own_apart {w w' : World} {B B' n n' s s' : Nat} {e e' : TypeId} {v u : Value} {xs ys : List Value} (h : w.ownsRow B e s v n xs) (h' : w'.ownsRow B' e' s' u n' ys) (hb : w.heap.size ≤ B') : v.ownBlock = none ∨ v.ownBlock ≠ u.ownBlock := by
  cases hv : v.ownBlock with
  | none => exact .inl rfl
  | some k => exact .inr (fun e => by have := (h.lt k hv).2; have := (h'.lt k (by rw [← e])).1; omega)
theorem own_apart' {w w' : World} {B B' n n' s s' : Nat} {e e' : TypeId} {v u : Value} {xs ys : List Value} (h : w.ownsRow B e s v n xs) (h' : w'.ownsRow B' e' s' u n' ys) (hb : w.heap.size ≤ B') : u.ownBlock = none ∨ u.ownBlock ≠ v.ownBlock := by
  cases hv : u.ownBlock with
  | none => exact .inl rfl
  | some k => exact .inr (fun e => by have := (h'.lt k hv).1; have := (h.lt k e.symm).2; omega)
theorem bl_grown {w W w1 : World} {B n s : Nat} {e : TypeId} {v : Value} {xs : List Value} (h : Below w.heap.size w W) (hg : W.grownBy w1 v.ownBlock) (ho : W.ownsRow B e s v n xs) (hB : w.heap.size ≤ B) : Below w.heap.size w w1 :=
  h.grown hg h.size (fun k hk => Nat.le_trans hB (ho.lt k hk).1)

set_option maxHeartbeats 2000000 in
theorem walk (v : Value) (xs : List Nat) (w : World) (hin : FIn w v xs) : Calls Try.prog 13 #[v] w fun e w' => e = .returned (.bool true) ∧ Below w.heap.size w w' := by
  have hin' := hin
  obtain ⟨a, cap, rfl, _⟩ := hin'
  by_cases hn : xs.length ≤ 1048576
  · have hd : decide ((1048576 : Int) < xs.length) = false := by simp; omega
    obtain ⟨ok, Z, H, hcl⟩ := outcome xs
    have Hs := Lib.hid H
    clear H
    have hneg : decide (((1 + Z.length : Nat) : Int) < 0) = false := by simp; omega
    go_enter Try.func13, Try.ntmps13
    go_wp2_with fail
    refine (toFloat32S_any _ _ _ hin hn).mono ?_
    rintro e w1 ⟨g1, rfl, hg1, ho1, hb1⟩
    have h1 := FIn_of_row rfl ho1
    clear ho1 hg1
    go_wp2_with fail
    refine (spec_SignChanges_all _ xs ok Z _ h1 Hs.out).mono ?_
    rintro e w2 ⟨v0, rfl, ho2, hb2⟩
    have e2 := bl_call hb1 hb2
    clear h1 hb1 hb2
    go_wp2_with fail
    refine (toFloat32S_any _ _ _ (hin.keep e2) hn).mono ?_
    rintro e w3 ⟨g3, rfl, hg3, ho3, hb3⟩
    have h3 := FIn_of_row rfl ho3
    have e3 := bl_call e2 hb3
    go_wp2_with fail
    refine (SignChanges_all _ xs ok Z _ h3 Hs.out).mono ?_
    rintro e w4 ⟨v4, rfl, ho4, hb4⟩
    have e4 := bl_call e3 hb4
    have k0 := own_keep (own_keep ho2 hb3) hb4
    go_wp2_with fail
    refine (eqInt64S_true _ _ Z _ (IIn_of_row rfl ho4) (IIn_of_row rfl k0) (by omega)).mono ?_
    rintro e w' ⟨rfl, n5, rfl⟩
    go_wp2_with fail
    refine (toFloat32S_any _ _ _ (hin.keep (bl_drewN e4 _)) hn).mono ?_
    rintro e w6 ⟨g6, rfl, hg6, ho6, hb6⟩
    have e6 := bl_call (bl_drewN e4 n5) hb6
    have hb46 := un_drewN hb6
    have x6 := own_keep (own_keep ho3 hb4) hb46
    go_wp2_with fail
    refine (eqFloat32S_true _ _ _ _ (FIn_of_row rfl x6) (FIn_of_row rfl ho6) hn).mono ?_
    rintro e w' ⟨rfl, n7, rfl⟩
    go_wp2_with fail
    refine (markedF_one _ xs _ _ _ rfl (own_drewN x6 _) (by omega)).mono ?_
    rintro e w8 ⟨rfl, ho8, hg8⟩
    have hg8' := grown_of_drewN hg8
    have e8 := bl_grown e6 hg8' x6 e2.size
    have y4 := own_keep ho4 hb46
    have y0 := own_keep k0 hb46
    have z4 := y4.kept hg8' (own_apart' ho3 ho4 (Nat.le_refl _))
    have z0 := y0.kept hg8' (own_apart ho2 ho3 (Nat.le_refl _))
    clear hg8 hg8' x6 y4 y0 hb6 ho6 ho8
    have hk8 : decide (((1 + xs.length : Nat) : Int) < 0) = false := by simp; omega
    go_wp2_with fail
    refine (eqInt64S_true _ _ Z _ (IIn_of_row rfl z4) (IIn_of_row rfl z0) (by omega)).mono ?_
    rintro e w' ⟨rfl, n9, rfl⟩
    go_wp2_with fail
    refine (marked_one _ Z _ _ _ rfl (own_drewN z4 _) (by omega)).mono ?_
    rintro e w10 ⟨rfl, ho10, hg10⟩
    have hg10' := grown_of_drewN hg10
    have e10 := bl_grown e8 hg10' z4 e3.size
    have z0' := z0.kept hg10' (own_apart ho2 ho4 (Nat.le_trans hb3.size (Nat.le_refl _)))
    clear hg10 hg10' z0 z4
    go_wp2_with fail
    refine (held_one _ _ _ (IIn_of_row (marks_len _ _).symm ho10) (by omega)).mono ?_
    rintro e w' ⟨rfl, n11, rfl⟩
    go_wp2_with fail
    refine (toFloat32S_any _ _ _ (hin.keep (bl_drewN e10 _)) hn).mono ?_
    rintro e w12 ⟨g12, rfl, hg12, ho12, hb12⟩
    have h12 := FIn_of_row rfl ho12
    have e12 := bl_call (bl_drewN e10 n11) hb12
    have hb12' := un_drewN hb12
    go_wp2_with fail
    refine (SignChanges_all _ xs ok Z _ h12 Hs.out).mono ?_
    rintro e w13 ⟨v13, rfl, ho13, hb13⟩
    have e13 := bl_call e12 hb13
    have q0 := own_keep (own_keep z0' hb12') hb13
    have q10 := own_keep (own_keep ho10 hb12') hb13
    go_wp2_with fail
    refine (eqInt64S_true _ _ Z _ (IIn_of_row rfl ho13) (IIn_of_row rfl q0) (by omega)).mono ?_
    rintro e w' ⟨rfl, n14, rfl⟩
    go_wp2_with fail
    refine (held_one _ _ _ (IIn_of_row (marks_len _ _).symm (own_drewN q10 _)) (by omega)).mono ?_
    rintro e w' ⟨rfl, n15, rfl⟩
    go_wp2_with fail
    go_ret
    exact ⟨rfl, bl_drewN e13 _⟩
  · have hd : decide ((1048576 : Int) < xs.length) = true := by simp; omega
    go_enter Try.func13, Try.ntmps13
    go_wp2_with fail
    go_ret
    exact ⟨rfl, bl_refl _⟩

theorem own : ownKnob Try.prog.godebug = none := by kernel_rfl
theorem laidOut : laidOutB Try.prog = true := by kernel_rfl

set_option maxRecDepth 100000 in
theorem lifted (os : Os) (started : os.Started) (H : Type) (enc : TypeId × Value → H) :
    ReturnsInHanded {} Try.checked os 13 .any (Rows.fnExactSignChangesSpec.pre6 enc Try.prog Try.f13 Rows.fnExactSignChangesRow.domain false) (Rows.fnExactSignChangesSpec.post enc Try.prog Try.f13 false true false false) := by
  refine returnsInHanded_of_change (C := Try.checked) own started (by kernel_rfl) Try.func13
    (ChangeSpec.witness6 (enc := enc) (C := Try.checked) false ⟨#[], #[.slice none 0 0], []⟩ 8 (by kernel_rfl) (by kernel_rfl) (by kernel_rfl) (by kernel_rfl)) ?_
  intro W base args ds gs before hval0 hW hcnd _
  have hval : ∀ (j : Nat) t v, Try.f13.params[j]? = some t → args[j]? = some v → Value.okWide Try.prog W .any base t v := hval0
  have hW' := hW
  obtain ⟨p, q, hA0, hV, rfl, hfz, hnd⟩ := hW
  have hA : DataW.TrodAll enc Try.prog W 0 (fun _ => true) true Try.f13.params.toList args.toList ds p := hA0
  rw [Try.params13] at hA hval
  obtain ⟨v0, vs0, d0, ds0, p0, q0, hargs, rfl, rfl, h0, r0⟩ := trodAll_cons hA
  obtain ⟨rfl, rfl, rfl⟩ := trodAll_nil r0
  obtain rfl : args = #[v0] := by cases args; simp_all
  obtain ⟨rfl, rfl⟩ := trodVars_none hV
  have k0 := h0
  have lt0 : ∀ x ∈ p0, x.block < W.heap.size := by obtain ⟨m, hm⟩ := k0; exact DataW.trod_lt m _ _ _ hm
  obtain ⟨xs0, w0⟩ := open_f32s Try.underlying40 Try.underlying22 (by kernel_rfl) (hval 0 40 v0 rfl rfl) h0
  clear hA0 hval0
  refine (walk v0 xs0 W w0).mono fun e W' ⟨he, bel⟩ => ?_
  subst he
  exact ⟨_, rfl, _, _, _, [], _, [], hW', trodAll_mk1 (shut_bool Try.underlying4 _), (trodAll_cons_mk (Below.trod laidOut (by kernel_rfl) (of_decide_eq_true (by kernel_rfl)) k0 bel lt0) trodAll_mk0), rfl, bel.frame _, fun h => by cases h⟩

theorem over : Rows.fnExactSignChangesRow.holds Try.pinned (OpenSpec.ofChange Rows.fnExactSignChangesSpec) :=
  OpenClaim.holds_of_wide 13 Try.f13 rfl rfl rfl rfl rfl rfl rfl ⟨rfl, rfl, rfl, rfl, rfl⟩ rfl rfl rfl rfl rfl (by kernel_rfl) Try.func13 (by kernel_rfl)
    (of_decide_eq_true (by kernel_rfl)) (by unfold Func.isWrapper; first | (rw [if_pos (by decide +kernel)]; kernel_rfl) | (rw [if_neg (by decide +kernel)]; exact ⟨rfl, rfl⟩))
    (fun os started H enc _ => lifted os started H enc)

theorem proved : Rows.FnExactSignChangesSaid := over
#print axioms proved
end Go.Proofs.Ytddfgopgcglldaa.lawSignChanges
