/- ArbiterRuns returns true. Conditions: as the theorem says. -/
import Derived.Test.YtkoeikjcnancdaaAal
set_option linter.unusedSimpArgs false
set_option linter.unusedVariables false
namespace Sx
open Go Go.Proofs
set_option maxRecDepth 100000
abbrev ruH (s : ASt) (Q : Ld) (cap : Nat) : Hp := [(1, .cells (objL s 2) 70), (2, .map .i64 s.h (.ints .i64 s.v)), (3, .cells (refL s 4 Q.length .no) 49), (4, .row 0 Q.length cap 2 (ldr Q) 63)]
set_option maxHeartbeats 8000000 in
theorem runs_c (w0 : Bool) (b hi me lo : Int) (off n : Nat) (L : Nat → AC) (O : Nat → Nat) {B0 : Base} {β : Env} {w : World} {vs : List Value} (hB0 : B0.ok)
    (hl : RelL β [cfgV w0 b hi me lo, .sq 0 off 0 9 n .no] vs) (hs : Sat β [] [] B0 1 w) (hA0 : ∀ B : Base, B.D = B0.D → B.pin = β → ActsAt B 0 off n L O) :
    Calls Try.prog 6 vs.toArray w (HEnd β B0 [] (fun _ : Unit => True) (fun _ => ⟨.tt, [], 1⟩)) := by
  refine hcB_of_run Try.func6 rfl hB0 hl hs (fun B e1 e2 hB hpin => ?_)
  have hA := hA0 B e1 e2
  clear hA0 e1 e2 hs hl hB0
  refine goK hB s2_ok rfl rfl (by simp [conj]) ?_
  cases hok : okC w0 b hi me lo with
  | false =>
    refine run_callC (new_bad w0 b hi me lo hok) named hB [] rfl rfl rfl rfl (by simp [conj]) (by simp [conj, less_rfl]) ?_
    rintro ⟨⟩ _
    refine ⟨show 0 ≤ 0 by omega, _, _, _, rfl, rfl, rfl, ?_⟩
    refine goK hB s2_ok rfl rfl (by simp [conj]) ?_
    refine run_condT rfl (by simp [hok]) ?_
    refine goK hB s2_ok rfl rfl (by simp [conj, isPt25]) ?_
    refine run_split 24 rfl (fun _ => ?_) (fun h => absurd h (by simp))
    refine run_callC known_hc named hB [] rfl rfl rfl rfl (by simp [conj]) (by simp [conj, less_rfl]) ?_
    rintro ⟨⟩ _
    refine ⟨show 0 ≤ 0 by omega, _, _, _, rfl, rfl, rfl, ?_⟩
    refine goK hB s2_ok rfl rfl (by simp [conj]) ?_
    exact run_retC hpin () trivial [0] rfl rfl (by simp [conj]) rfl (by simp [conj, less_rfl])
  | true =>
  refine run_callC (new_ok w0 b hi me lo hok) named hB [] rfl rfl rfl rfl (by simp [conj]) (by simp [conj, less_rfl]) ?_
  rintro ⟨⟩ _
  refine ⟨show 0 ≤ 2 by omega, _, _, _, rfl, rfl, rfl, ?_⟩
  refine goK hB s2_ok rfl rfl (by simp [conj]) ?_
  refine run_condF rfl (by simp [hok]) ?_
  refine goK hB s2_ok rfl rfl (by simp [conj]) ?_
  refine run_split 29 rfl (fun h => absurd h (by simp)) (fun _ => ?_)
  refine goK hB s2_ok rfl rfl (by simp [conj]) ?_
  refine run_cond rfl (fun hq => ?_) (fun hq => ?_)
  · clear hq
    refine goK hB s2_ok rfl rfl (by simp [conj]) ?_
    refine run_split 36 rfl (fun _ => ?_) (fun h => absurd h (by simp))
    refine run_callC known_hc named hB [] rfl rfl rfl rfl (by simp [conj]) (by simp [conj, less_rfl]) ?_
    rintro ⟨⟩ _
    refine ⟨show 0 ≤ 0 by omega, _, _, _, rfl, rfl, rfl, ?_⟩
    refine goK hB s2_ok rfl rfl (by simp [conj]) ?_
    exact run_retC hpin () trivial [0] rfl rfl (by simp [conj]) rfl (by simp [conj, less_rfl])
  have hn : n ≤ 60 := by simp at hq; omega
  clear hq
  refine goK hB s2_ok rfl rfl (by simp [conj]) ?_
  refine run_loop ?_
  refine run_invK (ι := Nat) hpin (fun i => i ≤ n ∧ ∀ j, j < i → (L j).ld.length ≤ 30) (fun i => n - i)
    (fun i => [(0, .sq 0 off 0 9 n .no), (3, i64 i)]) (fun _ => [[(1, .sq 0 off 0 9 n .no), (2, .ptr 1 0), (5, .ptr 2 0), (6, i64 0), (29, .ff)]]) []
    (fun _ => [(1, .cells [.sb w0, i64 b, i64 hi, i64 me, i64 lo] 23), (2, .cells (objL (aNew w0 b hi me lo) 3) 70), (3, .map .i64 (aNew w0 b hi me lo).h (.ints .i64 (aNew w0 b hi me lo).v))]) 4 0 ⟨Nat.zero_le _, fun j hj => absurd hj (Nat.not_lt_zero _)⟩
    [0, 1, 2, 3] rfl rfl (by simp [conj, less_rfl]) ?_
  rintro i ⟨h1, h2⟩ ih
  refine goK hB s2_ok rfl rfl (by simp [conj]) ?_
  refine run_cond rfl (fun h => ?_) (fun h => ?_)
  · have hi : i < n := by simpa using h
    refine run_ro (ro' := actRo 0 off i (L i) (O i) 4) (nx' := 5) (fun β w hs => hA.open hi (by omega) β w hs) ?_
    refine goK hB s2_ok rfl rfl (by simp [conj, hi]) ?_
    refine run_cond rfl (fun hq => ?_) (fun hq => ?_)
    · clear ih
      refine run_shut ?_
      refine goK hB s2_ok rfl rfl (by simp [conj]) ?_
      refine run_split 36 rfl (fun _ => ?_) (fun h => absurd h (by simp))
      refine run_callC known_hc named hB [] rfl rfl rfl rfl (by simp [conj]) (by simp [conj, less_rfl]) ?_
      rintro ⟨⟩ _
      refine ⟨show 0 ≤ 0 by omega, _, _, _, rfl, rfl, rfl, ?_⟩
      refine goK hB s2_ok rfl rfl (by simp [conj]) ?_
      exact run_retC hpin () trivial [0] rfl rfl (by simp [conj]) rfl (by simp [conj, less_rfl])
    have ih := ih (i + 1) ⟨by omega, fun j hj => by
      rcases Nat.lt_or_ge j i with q | q
      · exact h2 j q
      · rw [show j = i by omega]; simp at hq; omega⟩ (by omega)
    refine goK hB s2_ok rfl rfl (by simp [conj, Fits_i64]; omega) ?_
    refine run_shut ?_
    refine run_back ?_
    refine run_to hpin [0, 1, 2, 3] rfl rfl ?_ ih
    clear ih
    simp [conj, less_rfl]
  have hi : i = n := by simp at h; omega
  subst hi
  clear ih
  refine goK hB s2_ok rfl rfl (by simp [conj]) ?_
  refine run_callC (refnew_hc w0 b hi me lo) named hB [] rfl rfl rfl rfl (by simp [conj]) (by simp [conj, less_rfl]) ?_
  rintro ⟨⟩ _
  refine ⟨show 0 ≤ 0 by omega, _, _, _, rfl, rfl, rfl, ?_⟩
  refine goK hB s2_ok rfl rfl (by simp [conj]) ?_
  refine run_loop ?_
  refine run_inv (ι := Nat × ASt × Ld × Nat) hpin (fun x => x.1 ≤ i ∧ QOk x.2.1 x.2.2.1 ∧ CredOk x.2.1 ∧ x.2.2.1.length ≤ x.1) (fun x => i - x.1)
    (fun x => [(1, .sq 0 off 0 9 i .no), (5, .ptr 1 0), (7, .ptr 3 0), (8, i64 x.1)]) (fun _ => [])
    (fun x => ruH x.2.1 x.2.2.1 x.2.2.2) 5 (0, aNew w0 b hi me lo, [], 0) ⟨Nat.zero_le _, .nil _ _ _ _ _, .new hok, Nat.le_refl _⟩
    [0, 2, 3, 4, 5] rfl rfl (by simp [conj, less_rfl, ren_ldr]) ?_
  rintro ⟨j, s, Q, cap⟩ ⟨h3, h4, h5, h6⟩ ih
  dsimp only at h3 h4 h5 h6
  refine goK hB s2_ok rfl rfl (by simp [conj]) ?_
  refine run_cond rfl (fun h => ?_) (fun h => ?_)
  · have hj : j < i := by simpa using h
    have hla := h2 j hj
    obtain ⟨z, ⟨g1, g2, g3⟩, hdo⟩ := do_det s h5 Q h4 cap (O j) (L j).ld.length (by omega) (L j) (by omega)
    have ih := ih (j + 1, z) ⟨by show j + 1 ≤ i; omega, g1, g2, by show z.2.1.length ≤ j + 1; omega⟩ (by show i - (j + 1) < i - j; omega)
    refine goK hB s2_ok rfl rfl (by simp [conj]) ?_
    refine run_draw0 mixed (fun t => ?_)
    refine run_ro (ro' := actRo 0 off j (L j) (O j) 5) (nx' := 6) (fun β w hs => hA.open hj (by omega) β w hs) ?_
    refine run_pinK 4 (show 4 < 6 by omega) (fun b1 r1 hM1 => ?_)
    refine run_pinK 5 (show 5 < 6 by omega) (fun b2 r2 hM2 => ?_)
    have hB2 : ((B.pinA 4 b1 r1).pinA 5 b2 r2).ok := Base.pinA_ok (Base.pinA_ok hB)
    refine run_drawC (M := modeK s2) 1 12 rfl named hB2 s2_ok [(12, rcDo s Q cap (O j) (L j) z [1, 2, 4, 5])] ⟨⟨hdo, rfl, by show 4 ≤ 5; omega⟩, trivial⟩ rfl rfl rfl rfl rfl rfl (by simp [conj, less_rfl, SO.Live, ren_ldr, renR_ldr, hj]; exact ⟨.inr (show Pinned _ 5 from pinned_A), .inr (show Pinned _ 4 from Pinned.A pinned_A)⟩) (fun t => ?_)
    refine run_drawE rfl ?_
    refine goK hB2 s2_ok rfl rfl (by simp [conj, Fits_i64]; omega) ?_
    refine run_unpin hM2 ?_
    refine run_unpin hM1 ?_
    refine run_shut ?_
    refine run_back ?_
    refine run_to hpin [0, 1, 2, 3, 12] rfl rfl ?_ ih
    clear ih
    simp [conj, less_rfl, ren_ldr, renR_ldr]
  · clear ih
    refine goK hB s2_ok rfl rfl (by simp [conj]) ?_
    refine run_callC known_hc named hB [] rfl rfl rfl rfl (by simp [conj]) (by simp [conj, less_rfl]) ?_
    rintro ⟨⟩ _
    refine ⟨show 0 ≤ 0 by omega, _, _, _, rfl, rfl, rfl, ?_⟩
    refine goK hB s2_ok rfl rfl (by simp [conj]) ?_
    exact run_retC hpin () trivial [0] rfl rfl (by simp [conj]) rfl (by simp [conj, less_rfl])
end Sx
