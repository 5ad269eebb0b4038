/- Marks written into a shape, and looked for: the walks. No conditions but bounds on lengths. -/
import Derived.Test.YtpbccoobkmahlaaMark
namespace Go.Proofs.Ytpbccoobkmahlaa
open Go.Fl Go.RowKit

theorem mark_at {P : List PNd} {k0 i : Nat} (h : i < (markP P k0).length) : ∃ h' : i < P.length, (markP P k0)[i] = mkN P[i] (kAt P k0 i) := by
  have h' : i < P.length := by rw [markP_len] at h; exact h
  refine ⟨h', ?_⟩
  have := markP_get P k0 i h'
  rw [List.getElem?_eq_getElem h] at this
  exact Option.some.inj this
theorem mark_apt (P : List PNd) (k0 : Nat) (h : P.Pairwise Apt) : (markP P k0).Pairwise Apt := by
  rw [List.pairwise_iff_getElem] at h ⊢
  intro i j hi hj hij
  obtain ⟨hi', ei⟩ := mark_at hi
  obtain ⟨hj', ej⟩ := mark_at hj
  rw [ei, ej]
  rcases h i j hi' hj' hij with hh | hh | hh
  · exact .inl (by simp [mkN, hh, fmarks])
  · exact .inr (.inl (by simp [mkN, hh, fmarks]))
  · exact .inr (.inr hh)
theorem markF_at (p : PNd) (K : Int) (k lo hi : Nat) (hK : K = (k : Nat)) (w : World) (h : NumR w lo hi p) (hn : k + p.d.xs.length ≤ 1073741824) : Calls Try.prog 34 #[p.nv, .int .i64 K] w
    fun e w' => e = .returned (.int .i64 ((k + p.d.xs.length : Nat) : Int)) ∧ (∀ x y z : Int, NumR w' lo hi ⟨⟨x, y, z, fmarks k p.d.xs.length⟩, p.nv, p.q⟩) ∧ ∃ row : Option Nat, w.grownBy w' row ∧ (∀ r, row = some r → r = p.q ∧ p.d.xs ≠ [] ∧ lo ≤ r ∧ r < hi) := by
  subst hK; exact markF_num p k lo hi w h hn
theorem held_at (v : Value) (K : Int) (k n : Nat) (hK : K = (k : Nat)) (w : World) (h : FIn w v (fmarks k n)) (hn : k + n ≤ 256) : Calls Try.prog 84 #[v, .int .i64 K] w (IOut w .i64 ((k + n : Nat) : Int)) := by
  subst hK
  obtain ⟨a, cap, rfl, he⟩ := h
  have hsrc : ∀ j, j < n → ∃ b o, a = some ⟨b, o, none⟩ ∧ w.cell? ⟨b, o + j, none⟩ = some (.float .f32 (FloatKind.f32.nearest ((k + j : Nat) : Int))) := by
    intro j hj
    rcases he with he | ⟨b, o, ha, hc⟩
    · have := congrArg List.length he
      rw [fmarks_len] at this
      simp at this
      omega
    · have := hc j (by rw [fmarks_len]; exact hj)
      rw [fmarks_get k n j hj] at this
      exact ⟨b, o, ha, this⟩
  clear he
  rw [fmarks_len]
  go_enter Try.func84, Try.ntmps84
  go_wp2_with fail
  go_loopw [1, 5] (fun s i wr => ∃ j m : Nat, j ≤ n ∧ i = .int .i64 j ∧ s = .int .i64 ((k + j : Nat) : Int) ∧ wr = w.drewN m) (fun _ i _ => n - (intOf i).toNat)
  case atStart => exact ⟨0, 0, Nat.zero_le _, rfl, rfl, rfl⟩
  case round =>
    obtain ⟨j, m, hj, rfl, rfl, rfl⟩ := hrel
    by_cases hlt : j < n
    · obtain ⟨b, o, rfl, hc⟩ := hsrc j hlt
      clear hsrc
      have ho : FloatKind.f32.format.order (FloatKind.f32.nearest ((k : Int) + (j : Int))) (floatOfInt FloatKind.f32 ((k : Int) + (j : Int))) = some .eq := by
        have h := order_self (near_nn ⟨k + j, by omega⟩)
        simp only at h
        rw [show ((k + j : Nat) : Int) = (k : Int) + (j : Int) by omega] at h
        exact h
      go_wp2_with fail
      go_roundw
      case rel => exact ⟨j + 1, _, by omega, by go_num, by go_num, rfl⟩
      case measure => simp [intOf]; omega
    · obtain rfl : j = n := by omega
      clear hsrc
      go_wp2_with fail
      go_ret
      exact ⟨rfl, _, rfl⟩
set_option maxHeartbeats 2000000 in
theorem markNodeS_any (v : Value) (P : List PNd) (k0 lo hi : Nat) (w : World) (h : OwnP w lo hi v P) (hn : kAt P k0 P.length ≤ 1073741824) (hl : P.length ≤ 1073741824) : Calls Try.prog 54 #[v, .int .i64 (k0 : Nat)] w
    fun e w' => e = .returned (.int .i64 ((kAt P k0 P.length : Nat) : Int)) ∧ OwnP w' lo hi v (markP P k0) ∧ Within lo hi w w' := by
  obtain ⟨h1, h2, h3, h4, h5⟩ := h
  rcases h1.2 with ⟨rfl, h0⟩ | ⟨g, cap, cur, rfl, hb, hg, rest⟩
  · obtain rfl : P = [] := List.length_eq_zero_iff.1 h0
    go_enter Try.func54, Try.ntmps54
    go_wp2
    go_loopw [1, 5] (fun s i wr => ∃ k : Nat, i = .int .i64 k ∧ wr = w ∧ s = .int .i64 k0) (fun _ _ _ => 0)
    case atStart => exact ⟨0, rfl, rfl, rfl⟩
    case round =>
      obtain ⟨k, rfl, rfl, rfl⟩ := hrel
      go_wp2
      go_ret
      exact ⟨rfl, ⟨h1, h2, h3, h4, h5⟩, Within.refl _ _ _⟩
  · have hgb : lo ≤ g ∧ g < hi := ⟨hb, h2 g rfl⟩
    have hM : MixAt w lo hi (.slice (some ⟨g, 0, none⟩) P.length cap) P k0 0 := by
      refine ⟨by rw [mix_zero]; exact h1, fun j p hp => ?_⟩
      rw [mix_zero] at hp
      exact h3 p (List.mem_of_getElem? hp)
    have H4 := Lib.hid h4
    have Hfin := Lib.hid (show ∀ w', MixAt w' lo hi (.slice (some ⟨g, 0, none⟩) P.length cap) P k0 P.length → Within lo hi w w' → OwnP w' lo hi (.slice (some ⟨g, 0, none⟩) P.length cap) (markP P k0) from fun w' hm hw => by
      obtain ⟨m1, m2⟩ := hm
      rw [mix_full] at m1 m2
      refine ⟨by rw [markP_len]; exact m1, h2, fun p hp => ?_, mark_apt P k0 h4, Nat.le_trans h5 hw.size⟩
      obtain ⟨j, hj, rfl⟩ := List.mem_iff_getElem.1 hp
      exact m2 j _ (List.getElem?_eq_getElem hj))
    clear h1 h2 h3 h4 h5 hb hg rest
    go_enter Try.func54, Try.ntmps54
    go_wp2
    go_loopw [1, 5] (fun s i wr => ∃ m : Nat, m ≤ P.length ∧ i = .int .i64 m ∧ s = .int .i64 ((kAt P k0 m : Nat) : Int) ∧ MixAt wr lo hi (.slice (some ⟨g, 0, none⟩) P.length cap) P k0 m ∧ Within lo hi w wr) (fun _ i _ => P.length - (intOf i).toNat)
    case atStart => exact ⟨0, Nat.zero_le _, rfl, by rw [kAt_zero], hM, Within.refl _ _ _⟩
    case round =>
      clear hM
      obtain ⟨m, hm, rfl, rfl, hmx, hw⟩ := hrel
      by_cases hlt : m < P.length
      · obtain ⟨f1, f2, f3, f4⟩ := hmx.step H4.out hlt hgb
        obtain ⟨⟨u0, d0⟩, ⟨u1, d1⟩, ⟨u2, d2⟩⟩ := And.intro (f1 0 (by omega)) (And.intro (f1 1 (by omega)) (f1 2 (by omega)))
        have b0 := f2 0
        have b1 := f2 1
        have b2 := f2 2
        rw [Nat.add_zero] at d0 b0
        have hks := kAt_succ (k0 := k0) hlt
        have hkm := kAt_mono (P := P) (k0 := k0) (i := m + 1) (by omega)
        have F4 := Lib.hid f4
        have Hks := Lib.hid hks
        unfold mkLen at hks
        obtain ⟨kk, hkk⟩ : ∃ kk, kAt P k0 m = kk := ⟨_, rfl⟩
        rw [hkk] at F4 hks ⊢
        have hkb : kk + 3 + P[m].d.xs.length ≤ 1073741824 := by omega
        clear f1 f2 f4 hmx hks hkm
        go_wp2_with fail
        obtain ⟨g1, g2⟩ := F4.out (kk : Int) ((kk : Int) + 1) ((kk : Int) + 1 + 1) rfl (by omega) (by omega)
        refine (markF_at P[m] _ (kk + 3) lo hi (by omega) _ g1 hkb).mono ?_
        rintro e w2 ⟨rfl, hn2, hr2⟩
        obtain ⟨q1, q2⟩ := g2 w2 hn2 hr2
        have hk2 : kAt P k0 (m + 1) = kk + 3 + P[m].d.xs.length := by rw [Hks.out, hkk, mkLen]; omega
        have hw2 := hw.trans q2
        clear g1 g2 hn2 hr2 q2 d0 d1 d2 b0 b1 b2 f3 hw
        go_wp2_with fail
        go_roundw
        case rel => exact ⟨m + 1, by omega, by go_num, by rw [hk2]; go_num, q1, hw2⟩
        case measure => simp [intOf]; omega
      · obtain rfl : m = P.length := by omega
        have hF := Hfin.out wr hmx hw
        clear hmx
        go_wp2_with fail
        go_ret
        exact ⟨rfl, hF, hw⟩
theorem markShape_any (v : Value) (P : List PNd) (k0 lo hi : Nat) (w : World) (h : OwnP w lo hi v P) (hn : kAt P k0 P.length ≤ 1073741824) (hl : P.length ≤ 1073741824) : Calls Try.prog 20 #[.agg #[v], .int .i64 (k0 : Nat)] w
    fun e w' => e = .returned (.int .i64 ((kAt P k0 P.length : Nat) : Int)) ∧ OwnP w' lo hi v (markP P k0) ∧ Within lo hi w w' := by
  have hb0 := bl1 w (.cells #[v] 26)
  have hP := h.kept hb0.size (fun k _ hk => hb0.block k (Nat.lt_of_lt_of_le hk h.2.2.2.2))
  have HC := Lib.hid (markNodeS_any v P k0 lo hi _ hP hn hl)
  have hw0 : Within lo hi w (w.alloc (.cells #[v] 26)) := ⟨rfl, rfl, rfl, hb0.size, fun k hk _ => hb0.block k hk⟩
  obtain ⟨a, c, rfl⟩ := h.len
  clear h hP
  go_enter Try.func20, Try.ntmps20
  go_wp2_with (go_at_call 54; refine (Calls.mono (by exact HC.out) ?_); rintro e w' ⟨rfl, hP2, hw⟩)
  go_ret
  exact ⟨rfl, hP2, hw0.trans hw⟩
/-- The marks of a shape, looked for. -/
theorem heldNodeS_any (v : Value) (P : List PNd) (k0 : Nat) (w : World) (h : NodesIn w v ((markP P k0).map (·.d))) (hn : kAt P k0 P.length ≤ 256) : Calls Try.prog 55 #[v, .int .i64 (k0 : Nat)] w (IOut w .i64 ((kAt P k0 P.length : Nat) : Int)) := by
  have hlen : ((markP P k0).map (·.d)).length = P.length := by rw [List.length_map, markP_len]
  have hpl : P.length ≤ 256 := by
    have : ∀ Q : List PNd, Q.length ≤ (Q.map mkLen).sum := by
      intro Q
      induction Q with
      | nil => simp
      | cons q r ih => simp [mkLen]; omega
    have := this (P.take P.length)
    unfold kAt at hn
    simp at this
    rw [List.take_length] at hn
    omega
  obtain ⟨a, cap, rfl, _⟩ := id h
  have H := Lib.hid h
  clear h
  rw [hlen] at H ⊢
  go_enter Try.func55, Try.ntmps55
  go_wp2_with fail
  go_loopw [1, 5] (fun s i wr => ∃ m n : Nat, m ≤ P.length ∧ i = .int .i64 m ∧ s = .int .i64 ((kAt P k0 m : Nat) : Int) ∧ wr = w.drewN n) (fun _ i _ => P.length - (intOf i).toNat)
  case atStart => exact ⟨0, 0, Nat.zero_le _, rfl, by rw [kAt_zero], rfl⟩
  case round =>
    obtain ⟨m, n, hm, rfl, rfl, rfl⟩ := hrel
    by_cases hlt : m < P.length
    · obtain ⟨g, o, rfl, hg, hN⟩ := H.out.at_ (i := m) (by rw [hlen]; exact hlt)
      have e : ((markP P k0).map (·.d)).getD m default = (mkN P[m] (kAt P k0 m)).d := by
        simp [List.getD, markP_get P k0 m hlt]
      rw [e] at hN
      obtain ⟨c0, c1, c2, nv, c3, hF⟩ := hN
      have hks := kAt_succ (k0 := k0) hlt
      have hkm := kAt_mono (P := P) (k0 := k0) (i := m + 1) (by omega)
      have Hks := Lib.hid hks
      unfold mkLen at hks
      obtain ⟨kk, hkk⟩ : ∃ kk, kAt P k0 m = kk := ⟨_, rfl⟩
      rw [hkk] at hks c0 c1 c2 hF ⊢
      simp only [mkN] at c0 c1 c2 hF
      have hkb : kk + 3 + P[m].d.xs.length ≤ 256 := by omega
      have HC := Lib.hid (fun (W : World) (hW : FIn W nv (fmarks (kk + 3) (P[m]'hlt).d.xs.length)) => held_at nv ((kk : Int) + 1 + 1 + 1) (kk + 3) P[m].d.xs.length (by omega) W hW hkb)
      have HF := Lib.hid hF
      have e1 : ((kk + 1 : Nat) : Int) = (kk : Int) + 1 := by omega
      have e2 : ((kk + 2 : Nat) : Int) = (kk : Int) + 1 + 1 := by omega
      rw [e1] at c1
      rw [e2] at c2
      have hk2 : kAt P k0 (m + 1) = kk + 3 + P[m].d.xs.length := by rw [Hks.out, hkk, mkLen]; omega
      have Hk2 := Lib.hid hk2
      have hneg := nneg (kk + 3 + P[m].d.xs.length)
      clear hks hkm hF e e1 e2 hk2
      go_wp2_with (go_at_call 84; refine (Calls.mono (by exact HC.out _ (HF.out.drewN _)) ?_); rintro e w2 ⟨rfl, n2, rfl⟩)
      go_roundw
      case rel => exact ⟨m + 1, _, by omega, by go_num, by rw [Hk2.out]; go_num, rfl⟩
      case measure => simp [intOf]; omega
    · obtain rfl : m = P.length := by omega
      go_wp2_with fail
      go_ret
      exact ⟨rfl, _, rfl⟩
theorem heldShape_any (v : Value) (P : List PNd) (k0 : Nat) (w : World) (h : NodesIn w v ((markP P k0).map (·.d))) (hn : kAt P k0 P.length ≤ 256) : Calls Try.prog 21 #[.agg #[v], .int .i64 (k0 : Nat)] w
    fun e w' => e = .returned (.int .i64 ((kAt P k0 P.length : Nat) : Int)) ∧ Below w.heap.size w w' := by
  have hb0 := bl1 w (.cells #[v] 26)
  have HC := Lib.hid (heldNodeS_any v P k0 _ (h.keep hb0) hn)
  have hlen : ((markP P k0).map (·.d)).length = P.length := by rw [List.length_map, markP_len]
  obtain ⟨a, c, rfl, _⟩ := id h
  clear h
  rw [hlen] at HC hb0 ⊢
  have hneg := nneg (kAt P k0 P.length)
  go_enter Try.func21, Try.ntmps21
  go_wp2_with (go_at_call 55; refine (Calls.mono (by exact HC.out) ?_); rintro e w' ⟨rfl, n, rfl⟩)
  go_ret
  exact ⟨rfl, bl_drewN hb0 _⟩
end Go.Proofs.Ytpbccoobkmahlaa
