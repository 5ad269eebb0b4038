/- The law FnExactBetweenVectors returns true for every two vectors. No conditions. -/
import Derived.Test.YtddfgopgcglldaaBetween
namespace Go.Proofs.Ytddfgopgcglldaa.lawBetweenVectors
open Go.ChangeShapes Go.WideShapes Go.ChangeAt Go.RowKit
open Go.Fl
set_option linter.unusedVariables false

set_option maxHeartbeats 8000000 in
theorem walk (ax ay az : Nat) (hax : ax < 4294967296) (hay : ay < 4294967296) (haz : az < 4294967296) (bx b_y bz : Nat) (hbx : bx < 4294967296) (hby : b_y < 4294967296) (hbz : bz < 4294967296) (sh : Nat) (hsh : sh < 4294967296) (w : World) : Calls Try.prog 7 #[.agg #[.float .f32 ax, .float .f32 ay, .float .f32 az], .agg #[.float .f32 bx, .float .f32 b_y, .float .f32 bz], .float .f32 sh] w fun e w' => e = .returned (.bool true) ∧ Below w.heap.size w w' := by
  go_enter Try.func7, Try.ntmps7
  go_upto_region 1 with fail
  go_cut [7] (fun s5 wx => VecAt w (btwF ax bx sh) (btwF ay b_y sh) (btwF az bz sh) s5 wx ∧ Below w.heap.size w wx ∧ w.heap.size < wx.heap.size ∧ w.heap.size + 1 < wx.heap.size ∧ wx.cell? ⟨w.heap.size, 0, none⟩ = some (.float .f32 ax) ∧ wx.cell? ⟨w.heap.size, 1, none⟩ = some (.float .f32 ay) ∧ wx.cell? ⟨w.heap.size, 2, none⟩ = some (.float .f32 az) ∧ wx.cell? ⟨w.heap.size + 1, 0, none⟩ = some (.float .f32 bx) ∧ wx.cell? ⟨w.heap.size + 1, 1, none⟩ = some (.float .f32 b_y) ∧ wx.cell? ⟨w.heap.size + 1, 2, none⟩ = some (.float .f32 bz))
  case first =>
    go_region_held3 (fun w' => w.heap.size < w'.heap.size ∧ w.heap.size + 1 < w'.heap.size ∧ w'.cell? ⟨w.heap.size, 0, none⟩ = some (.float .f32 ax) ∧ w'.cell? ⟨w.heap.size, 1, none⟩ = some (.float .f32 ay) ∧ w'.cell? ⟨w.heap.size, 2, none⟩ = some (.float .f32 az) ∧ w'.cell? ⟨w.heap.size + 1, 0, none⟩ = some (.float .f32 bx) ∧ w'.cell? ⟨w.heap.size + 1, 1, none⟩ = some (.float .f32 b_y) ∧ w'.cell? ⟨w.heap.size + 1, 2, none⟩ = some (.float .f32 bz)) (first | exact two_keep (by assumption) (by assumption) | exact two_keep (bl_alloc (bl_refl _) _) (by assumption) | exact two_realloc (by assumption) (by first | assumption | omega) | (refine two_set (two_set (two_set (by assumption) ?_) ?_) ?_ <;> first | omega | (simp; done) | (simp; omega)) | (simp; done) | (simp [lt2]; done) | (simp [*]; done)) (first | (go_at_call 26; refine (toVector_any _ _ _ _).mono ?_; rintro e w1 ⟨rfl, hb⟩; obtain ⟨hc, hf⟩ := bcell hb; have hz := hb.size; (try simp at hz); (first | have hz' := Nat.lt_of_succ_le hz | have hz' := Nat.lt_of_lt_of_le (by assumption) hz | skip)) | (go_at_call 25; refine (spec_BetweenVectors_any _ _ _ _ _ _ _ _ ).mono ?_; rintro e w1 ⟨r, s', t, hr, hs, ht, rfl, hb⟩; obtain ⟨hc, hf⟩ := bcell hb; have hz := hb.size; (try simp at hz); (first | have hz' := Nat.lt_of_succ_le hz | have hz' := Nat.lt_of_lt_of_le (by assumption) hz | skip)))
    all_goals (go_wp2_with fail; go_meet; refine ⟨⟨_, r, s', t, rfl, ?_, ?_, ?_, ?_, ?_, hr, hs, ht⟩, ?_, ?_⟩)
    all_goals first | assumption | omega | (simp; done) | (simp; omega) | (simp [*]; done) | ((repeat (first | with_reducible exact bl_refl _ | with_reducible assumption | with_reducible refine bl_set ?_ (by first | assumption | omega | (simp <;> omega)) _ | with_reducible refine bl_drewN ?_ _ | with_reducible refine bl_drew ?_ | with_reducible refine bl_alloc ?_ _ | with_reducible refine bl_call ?_ (by assumption))); done) | (go_simp; done)
  case rest =>
    obtain ⟨⟨g, r1, s1, t1, rfl, hg1, hg2, c0, c1, c2, h1, h2, h3⟩, hbw, hS⟩ := hcut
    go_upto_region 2 with fail
    go_cut [8] (fun s6 wx => VecAt w (btwF ax bx sh) (btwF ay b_y sh) (btwF az bz sh) s6 wx ∧ Below wc.heap.size wc wx ∧ w.heap.size < wx.heap.size ∧ w.heap.size + 1 < wx.heap.size ∧ wx.cell? ⟨w.heap.size, 0, none⟩ = some (.float .f32 ax) ∧ wx.cell? ⟨w.heap.size, 1, none⟩ = some (.float .f32 ay) ∧ wx.cell? ⟨w.heap.size, 2, none⟩ = some (.float .f32 az) ∧ wx.cell? ⟨w.heap.size + 1, 0, none⟩ = some (.float .f32 bx) ∧ wx.cell? ⟨w.heap.size + 1, 1, none⟩ = some (.float .f32 b_y) ∧ wx.cell? ⟨w.heap.size + 1, 2, none⟩ = some (.float .f32 bz))
    case first =>
      go_region_held3 (fun w' => w.heap.size < w'.heap.size ∧ w.heap.size + 1 < w'.heap.size ∧ w'.cell? ⟨w.heap.size, 0, none⟩ = some (.float .f32 ax) ∧ w'.cell? ⟨w.heap.size, 1, none⟩ = some (.float .f32 ay) ∧ w'.cell? ⟨w.heap.size, 2, none⟩ = some (.float .f32 az) ∧ w'.cell? ⟨w.heap.size + 1, 0, none⟩ = some (.float .f32 bx) ∧ w'.cell? ⟨w.heap.size + 1, 1, none⟩ = some (.float .f32 b_y) ∧ w'.cell? ⟨w.heap.size + 1, 2, none⟩ = some (.float .f32 bz)) (first | exact two_keep (by assumption) (by assumption) | exact two_keep (bl_alloc (bl_refl _) _) (by assumption) | exact two_realloc (by assumption) (by first | assumption | omega) | (refine two_set (two_set (two_set (by assumption) ?_) ?_) ?_ <;> first | omega | (simp; done) | (simp; omega)) | (simp; done) | (simp [lt2]; done) | (simp [*]; done)) (first | (go_at_call 26; refine (toVector_any _ _ _ _).mono ?_; rintro e w1 ⟨rfl, hb⟩; obtain ⟨hc, hf⟩ := bcell hb; have hz := hb.size; (try simp at hz); (first | have hz' := Nat.lt_of_succ_le hz | have hz' := Nat.lt_of_lt_of_le (by assumption) hz | skip)) | (go_at_call 27; refine (BetweenVectors_any _ _ _ _ _ _ _ _ ).mono ?_; rintro e w1 ⟨r, s', t, hr, hs, ht, rfl, hb⟩; obtain ⟨hc, hf⟩ := bcell hb; have hz := hb.size; (try simp at hz); (first | have hz' := Nat.lt_of_succ_le hz | have hz' := Nat.lt_of_lt_of_le (by assumption) hz | skip)))
      all_goals (go_wp2_with fail; go_meet; refine ⟨⟨_, r, s', t, rfl, ?_, ?_, ?_, ?_, ?_, hr, hs, ht⟩, ?_, ?_⟩)
      all_goals first | assumption | omega | (simp; done) | (simp; omega) | (simp [*]; done) | ((repeat (first | with_reducible exact bl_refl _ | with_reducible assumption | with_reducible refine bl_set ?_ (by first | assumption | omega | (simp <;> omega)) _ | with_reducible refine bl_drewN ?_ _ | with_reducible refine bl_drew ?_ | with_reducible refine bl_alloc ?_ _ | with_reducible refine bl_call ?_ (by assumption))); done) | (go_simp; done)
    case rest =>
      obtain ⟨⟨g', r2, s2, t2, rfl, hg1', hg2', c0', c1', c2', h1', h2', h3'⟩, hbw', _⟩ := hcut
      have d0 := (hbw'.cell (p := ⟨g, 0, none⟩) hg2).trans c0
      have d1 := (hbw'.cell (p := ⟨g, 1, none⟩) hg2).trans c1
      have d2 := (hbw'.cell (p := ⟨g, 2, none⟩) hg2).trans c2
      go_wp2_with fail
      refine (eqVector_true _ _ _ _ _ _ (h1'.same h1) (h2'.same h2) (h3'.same h3) _).mono ?_
      rintro e w1 ⟨rfl, hb⟩
      go_wp2_with fail
      go_ret
      exact ⟨rfl, (bl_call (bl_call hbw hbw') hb)⟩

theorem own : ownKnob Try.prog.godebug = none := by kernel_rfl
theorem laidOut : laidOutB Try.prog = true := by kernel_rfl

set_option maxRecDepth 100000 in
theorem lifted (os : Os) (started : os.Started) (H : Type) (enc : TypeId × Value → H) :
    ReturnsInHanded {} Try.checked os 7 .any (Rows.fnExactBetweenVectorsSpec.pre6 enc Try.prog Try.f7 Rows.fnExactBetweenVectorsRow.domain false) (Rows.fnExactBetweenVectorsSpec.post enc Try.prog Try.f7 false true false false) := by
  refine returnsInHanded_of_change (C := Try.checked) own started (by kernel_rfl) Try.func7
    (ChangeSpec.witness6 (enc := enc) (C := Try.checked) false ⟨#[], #[.agg #[.float .f32 0, .float .f32 0, .float .f32 0], .agg #[.float .f32 0, .float .f32 0, .float .f32 0], .float .f32 0], []⟩ 8 (by kernel_rfl) (by kernel_rfl) (by kernel_rfl) (by kernel_rfl)) ?_
  intro W base args ds gs before hval0 hW hcnd _
  have hval : ∀ (j : Nat) t v, Try.f7.params[j]? = some t → args[j]? = some v → Value.okWide Try.prog W .any base t v := hval0
  have hW' := hW
  obtain ⟨p, q, hA0, hV, rfl, hfz, hnd⟩ := hW
  have hA : DataW.TrodAll enc Try.prog W 0 (fun _ => true) true Try.f7.params.toList args.toList ds p := hA0
  rw [Try.params7] at hA hval
  obtain ⟨v0, vs0, d0, ds0, p0, q0, hargs, rfl, rfl, h0, r0⟩ := trodAll_cons hA
  obtain ⟨v1, vs1, d1, ds1, p1, q1, rfl, rfl, rfl, h1, r1⟩ := trodAll_cons r0
  obtain ⟨v2, vs2, d2, ds2, p2, q2, rfl, rfl, rfl, h2, r2⟩ := trodAll_cons r1
  obtain ⟨rfl, rfl, rfl⟩ := trodAll_nil r2
  obtain rfl : args = #[v0, v1, v2] := by cases args; simp_all
  obtain ⟨rfl, rfl⟩ := trodVars_none hV
  have k0 := h0
  have lt0 : ∀ x ∈ p0, x.block < W.heap.size := by obtain ⟨m, hm⟩ := k0; exact DataW.trod_lt m _ _ _ hm
  have k1 := h1
  have lt1 : ∀ x ∈ p1, x.block < W.heap.size := by obtain ⟨m, hm⟩ := k1; exact DataW.trod_lt m _ _ _ hm
  have k2 := h2
  have lt2 : ∀ x ∈ p2, x.block < W.heap.size := by obtain ⟨m, hm⟩ := k2; exact DataW.trod_lt m _ _ _ hm
  obtain ⟨x0, y0, z0, rfl, wx0, wy0, wz0⟩ := Fl.open_vec Try.underlying34 (by kernel_rfl) (by kernel_rfl) Try.underlying22 Try.underlying22 Try.underlying22 (hval 0 34 v0 rfl rfl) h0
  obtain ⟨x1, y1, z1, rfl, wx1, wy1, wz1⟩ := Fl.open_vec Try.underlying34 (by kernel_rfl) (by kernel_rfl) Try.underlying22 Try.underlying22 Try.underlying22 (hval 1 34 v1 rfl rfl) h1
  obtain ⟨a2, rfl, rfl, rfl, w2⟩ := open_float Try.underlying22 (hval 2 22 v2 rfl rfl) h2
  clear hA0 hval0
  refine (walk x0 y0 z0 wx0 wy0 wz0 x1 y1 z1 wx1 wy1 wz1 a2 (Fl.lt_of_wf w2) W).mono fun e W' ⟨he, bel⟩ => ?_
  subst he
  exact ⟨_, rfl, _, _, _, [], _, [], hW', trodAll_mk1 (shut_bool Try.underlying4 _), (trodAll_cons_mk (Below.trod laidOut (by kernel_rfl) (of_decide_eq_true (by kernel_rfl)) k0 bel lt0) (trodAll_cons_mk (Below.trod laidOut (by kernel_rfl) (of_decide_eq_true (by kernel_rfl)) k1 bel lt1) (trodAll_cons_mk (Below.trod laidOut (by kernel_rfl) (of_decide_eq_true (by kernel_rfl)) k2 bel lt2) trodAll_mk0))), rfl, bel.frame _, fun h => by cases h⟩

theorem over : Rows.fnExactBetweenVectorsRow.holds Try.pinned (OpenSpec.ofChange Rows.fnExactBetweenVectorsSpec) :=
  OpenClaim.holds_of_wide 7 Try.f7 rfl rfl rfl rfl rfl rfl rfl ⟨rfl, rfl, rfl, rfl, rfl⟩ rfl rfl rfl rfl rfl (by kernel_rfl) Try.func7 (by kernel_rfl)
    (of_decide_eq_true (by kernel_rfl)) (by unfold Func.isWrapper; first | (rw [if_pos (by decide +kernel)]; kernel_rfl) | (rw [if_neg (by decide +kernel)]; exact ⟨rfl, rfl⟩))
    (fun os started H enc _ => lifted os started H enc)

theorem proved : Rows.FnExactBetweenVectorsSaid := over
#print axioms proved
end Go.Proofs.Ytddfgopgcglldaa.lawBetweenVectors
