/- ArbiterTurns returns true. Conditions: as the theorem says. -/
import Derived.Test.YtkoeikjcnancdaaAv
set_option linter.unusedSimpArgs false
set_option linter.unusedVariables false
namespace Sx
open Go Go.Proofs
set_option maxRecDepth 100000
theorem ldT_app (W : Nat → Int) (i a k : Nat) (ha : a < i + 1) (hk : k < 2) : Less (ldr (ldT W (i + 1)) a k) (appF (ldr (ldT W i)) i (fun i_2 k => [i64 (3 * (i : Int)), i64 (W i)][i_2 * 2 + k]?.getD .und) a k) := by
  have := app_ldr (ldT W i) (3 * (i : Int), W i) _ _ rfl rfl a k (by rw [ldT_len]; exact ha) hk
  rw [ldT_len] at this
  rw [ldT_succ, this]; exact (less_rfl _).2 trivial
set_option maxHeartbeats 4000000 in
theorem turns_hc (burst : Int) (off n : Nat) (W : Nat → Int) (turns : Int) :
    HC Try.prog 4 [i64 burst, .sq 0 off 0 1 n .no, i64 turns] [] [(0, .row off n n 1 (nr .i64 W) anyTy)] 1 (fun _ : Unit => True) (fun _ => ⟨.tt, [], 1⟩) := by
  refine hc_of_run Try.func4 rfl (fun B hB hpin => ?_)
  refine goK hB s2_ok rfl rfl (by simp [conj]) ?_
  cases hok : okC false burst 0 0 0 with
  | false =>
    refine run_callC (new_bad false burst 0 0 0 hok) named hB [] rfl rfl rfl rfl (by simp [conj]) (by simp [conj, less_rfl, ren_nr, ren_ldr]) ?_
    rintro ⟨⟩ _
    refine ⟨show 0 ≤ 0 by omega, _, _, _, rfl, rfl, rfl, ?_⟩
    refine goK hB s2_ok rfl rfl (by simp [conj]) ?_
    refine run_condT rfl (by simp) ?_
    refine goK hB s2_ok rfl rfl (by simp [conj]) ?_
    refine run_callC known_hc named hB [] rfl rfl rfl rfl (by simp [conj]) (by simp [conj, less_rfl, ren_nr, ren_ldr]) ?_
    rintro ⟨⟩ _
    refine ⟨show 0 ≤ 0 by omega, _, _, _, rfl, rfl, rfl, ?_⟩
    refine goK hB s2_ok rfl rfl (by simp [conj]) ?_
    exact run_retC hpin () trivial [0] rfl rfl (by simp [conj]) rfl (by simp [conj, less_rfl, ren_nr, ren_ldr])
  | true =>
  refine run_callC (new_ok false burst 0 0 0 hok) named hB [] rfl rfl rfl rfl (by simp [conj]) (by simp [conj, less_rfl, ren_nr, ren_ldr]) ?_
  rintro ⟨⟩ _
  refine ⟨show 0 ≤ 2 by omega, _, _, _, rfl, rfl, rfl, ?_⟩
  refine goK hB s2_ok rfl rfl (by simp [conj]) ?_
  refine run_cond rfl (fun hq => ?_) (fun hq => ?_)
  · refine goK hB s2_ok rfl rfl (by simp [conj]) ?_
    refine run_callC known_hc named hB [] rfl rfl rfl rfl (by simp [conj]) (by simp [conj, less_rfl, ren_nr, ren_ldr]) ?_
    rintro ⟨⟩ _
    refine ⟨show 0 ≤ 0 by omega, _, _, _, rfl, rfl, rfl, ?_⟩
    refine goK hB s2_ok rfl rfl (by simp [conj]) ?_
    exact run_retC hpin () trivial [0] rfl rfl (by simp [conj]) rfl (by simp [conj, less_rfl, ren_nr, ren_ldr])
  have hq : n ≤ 20 ∧ 0 ≤ turns ∧ turns ≤ 3 := by simp at hq; omega
  obtain ⟨hn, ht0, ht1⟩ := hq
  refine goK hB s2_ok rfl rfl (by simp [conj]) ?_
  refine run_loop ?_
  refine run_inv (ι := Nat × ASt) hpin (fun x => x.1 ≤ n ∧ TSt x.2 burst x.1 ∧ x.2.l0 = -1 ∧ ∀ j, j < x.1 → 1 ≤ W j) (fun x => n - x.1)
    (fun x => [(0, i64 burst), (1, .sq 0 off 0 1 n .no), (2, i64 turns), (7, .ptr 1 0), (9, .sq 3 0 0 2 x.1 .own), (10, i64 x.1)]) (fun _ => [])
    (fun x => [(1, .cells (objL x.2 2) 70), (2, .map .i64 x.2.h (.ints .i64 x.2.v)), (3, .row 0 x.1 x.1 2 (ldr (ldT W x.1)) 35)]) 4 (0, aNew false burst 0 0 0) ⟨Nat.zero_le _, TSt.new _, rfl, fun j hj => absurd hj (Nat.not_lt_zero _)⟩
    [0, 1, 2, 3] rfl rfl (by simp [conj, less_rfl, ren_ldr, ren_nr]) ?_
  rintro ⟨i, s⟩ ⟨h1, h2, h3, h4⟩ ih
  dsimp only at h1 h2 h3 h4
  refine goK hB s2_ok rfl rfl (by simp [conj]) ?_
  refine run_cond rfl (fun h => ?_) (fun h => ?_)
  · have hi : i < n := by simpa using h
    refine goK hB s2_ok rfl rfl (by simp [conj, hi]) ?_
    refine run_cond rfl (fun hq => ?_) (fun hq => ?_)
    · clear ih
      refine goK hB s2_ok rfl rfl (by simp [conj]) ?_
      refine run_callC known_hc named hB [] rfl rfl rfl rfl (by simp [conj]) (by simp [conj, less_rfl, ren_nr, ren_ldr]) ?_
      rintro ⟨⟩ _
      refine ⟨show 0 ≤ 0 by omega, _, _, _, rfl, rfl, rfl, ?_⟩
      refine goK hB s2_ok rfl rfl (by simp [conj]) ?_
      exact run_retC hpin () trivial [0] rfl rfl (by simp [conj]) rfl (by simp [conj, less_rfl, ren_nr, ren_ldr])
    have hWi : 1 ≤ W i := by simpa using hq
    have hmod : 0 ≤ (i : Int) % 4 ∧ (i : Int) % 4 ≤ 3 := by omega
    obtain ⟨g1, g2, g3⟩ := h2.add (c := (i : Int) % 4) (by omega) hmod
    have ha := add0 s (3 * (i : Int)) ((i : Int) % 4) g1
    refine goK hB s2_ok rfl rfl (by simp [conj, hi, Fits_i64]; omega) ?_
    refine run_callC ha named hB [1, 2] rfl rfl rfl rfl (by simp [conj]) (by simp [conj, less_rfl, ren_nr, ren_ldr]) ?_
    rintro ⟨⟩ _
    refine ⟨show 2 ≤ 2 by omega, _, _, _, rfl, rfl, rfl, ?_⟩
    refine goK hB s2_ok rfl rfl (by simp [conj]) ?_
    refine run_condF rfl (by decide) ?_
    refine goK hB s2_ok rfl rfl (by simp [conj, hi, Fits_i64]; omega) ?_
    have ih := ih (i + 1, addS s (3 * (i : Int)) ((i : Int) % 4)) ⟨by show i + 1 ≤ n; omega, g2, g3.trans h3, fun j hj => by
      rcases Nat.lt_or_ge j i with hji | hji
      · exact h4 j hji
      · rw [show j = i by have : j < i + 1 := hj
                          omega]; exact hWi⟩ (by show n - (i + 1) < n - i; omega)
    refine run_back ?_
    refine run_to hpin [0, 1, 2, 5] rfl rfl ?_ ih
    clear ih
    simp [conj, less_rfl, ren_ldr, ren_nr, ldT_len]
    exact ldT_app W i
  · have hi : i = n := by simp at h; omega
    subst hi
    clear ih
    refine goK hB s2_ok rfl rfl (by simp [conj]) ?_
    refine run_loop ?_
    refine run_inv (ι := Nat × ASt) hpin (fun x => (x.1 : Int) ≤ turns ∧ TSt x.2 burst i ∧ LastOk x.2 i 0) (fun x => 3 - x.1)
      (fun x => [(0, i64 burst), (1, .sq 0 off 0 1 i .no), (2, i64 turns), (7, .ptr 1 0), (9, .sq 3 0 0 2 i .own), (11, i64 x.1)]) (fun _ => [])
      (fun x => [(1, .cells (objL x.2 2) 70), (2, .map .i64 x.2.h (.ints .i64 x.2.v)), (3, .row 0 i i 2 (ldr (ldT W i)) 35)]) 4 (0, s) ⟨ht0, h2, .zero (b := burst) h3⟩
      [0, 1, 2, 3] rfl rfl (by simp [conj, less_rfl, ren_ldr, ren_nr]) ?_
    rintro ⟨t, s⟩ ⟨h1, h2, h3⟩ ih
    dsimp only at h1 h2 h3
    refine goK hB s2_ok rfl rfl (by simp [conj]) ?_
    refine run_cond rfl (fun h => ?_) (fun h => ?_)
    · have hi : (t : Int) < turns := by simpa using h
      refine goK hB s2_ok rfl rfl (by simp [conj]) ?_
      refine run_loop ?_
      refine run_inv (ι := Nat × ASt) hpin (fun x => x.1 ≤ i ∧ TSt x.2 burst i ∧ LastOk x.2 i x.1) (fun x => i - x.1)
        (fun x => [(0, i64 burst), (1, .sq 0 off 0 1 i .no), (2, i64 turns), (7, .ptr 1 0), (9, .sq 3 0 0 2 i .own), (11, i64 t), (12, i64 x.1)]) (fun _ => [])
        (fun x => [(1, .cells (objL x.2 2) 70), (2, .map .i64 x.2.h (.ints .i64 x.2.v)), (3, .row 0 i i 2 (ldr (ldT W i)) 35)]) 4 (0, s) ⟨Nat.zero_le _, h2, h3⟩
        [0, 1, 2, 3] rfl rfl (by simp [conj, less_rfl, ren_ldr, ren_nr]) ?_
      rintro ⟨j, s⟩ ⟨k1, k2, k3⟩ jh
      dsimp only at k1 k2 k3
      refine goK hB s2_ok rfl rfl (by simp [conj]) ?_
      refine run_cond rfl (fun h => ?_) (fun h => ?_)
      · have hj : j < i := by simpa using h
        have hp := picks_hc s k2.cred (ldT W i) 0 i (by rw [ldT_len]; omega) (kT i) (k2.ok h4) (kT_keys h4) _ _ _ (k2.pick hj (W := W) k3)
        rw [ldT_len] at hp
        have jh := jh (j + 1, setLast s 0 (3 * (j : Int))) ⟨by show j + 1 ≤ i; omega, k2.last j, LastOk.next s i j⟩ (by show i - (j + 1) < i - j; omega)
        refine goK hB s2_ok rfl rfl (by simp [conj, hj]) ?_
        refine run_cond rfl (fun hb => ?_) (fun hb => ?_)
        all_goals
          refine goK hB s2_ok rfl rfl (by simp [conj, Fits_i64]; omega) ?_
          refine run_callC hp named hB [1, 2, 3] rfl rfl rfl rfl (by simp [conj]) (by
            first
              | (have hb2 : 0 < burst := by simpa using hb
                 simp [conj, less_rfl, ren_nr, ren_ldr, wantT, capB, hb2]; done)
              | (have hb2 : ¬ 0 < burst := by simpa using hb
                 simp [conj, less_rfl, ren_nr, ren_ldr, wantT, capB, hb2]; done)) ?_
          rintro ⟨⟩ _
          refine ⟨show 3 ≤ 3 by omega, _, _, _, rfl, rfl, rfl, ?_⟩
          refine goK hB s2_ok rfl rfl (by simp [conj, Fits_i64]; omega) ?_
          refine run_back ?_
          refine run_to hpin [0, 1, 2, 3] rfl rfl ?_ jh
          clear jh ih
          simp [conj, less_rfl, ren_ldr, ren_nr]
      · have hj : j = i := by simp at h; omega
        subst hj
        clear jh
        have ih := ih (t + 1, s) ⟨by show ((t + 1 : Nat) : Int) ≤ turns; omega, k2, k3.turn⟩ (by show 3 - (t + 1) < 3 - t; omega)
        refine goK hB s2_ok rfl rfl (by simp [conj, Fits_i64]; omega) ?_
        refine run_back ?_
        refine run_to hpin [0, 1, 2, 3] rfl rfl ?_ ih
        clear ih
        simp [conj, less_rfl, ren_ldr, ren_nr]
    · clear ih
      refine goK hB s2_ok rfl rfl (by simp [conj]) ?_
      refine run_callC known_hc named hB [] rfl rfl rfl rfl (by simp [conj]) (by simp [conj, less_rfl, ren_nr, ren_ldr]) ?_
      rintro ⟨⟩ _
      refine ⟨show 0 ≤ 0 by omega, _, _, _, rfl, rfl, rfl, ?_⟩
      refine goK hB s2_ok rfl rfl (by simp [conj]) ?_
      exact run_retC hpin () trivial [0] rfl rfl (by simp [conj]) rfl (by simp [conj, less_rfl, ren_nr, ren_ldr])
end Sx
