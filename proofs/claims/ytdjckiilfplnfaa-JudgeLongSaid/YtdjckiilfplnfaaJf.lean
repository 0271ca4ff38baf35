/- slices.Clone of numbers. Conditions: as each theorem says. -/
import Derived.Test.YtdjckiilfplnfaaJe
import Derived.Test.YtdjckiilfplnfaaEngX4
set_option linter.unusedSimpArgs false
set_option linter.unusedVariables false
namespace Sx
open Go Go.Proofs
set_option maxRecDepth 100000
set_option pp.deepTerms true
set_option pp.maxSteps 10000000
theorem isSl23 : IsSl Try.prog 23 := ⟨3, by kernel_rfl⟩
/-- slices.Clone of a row of numbers. -/
theorem cloneV_hcx (K : Kn) (v : Value) (n : Nat) (f : Nat → Int) (hl : n < 1000000) (hF : Froz K v n 1 (urow f)) :
    HCX Try.prog K M0 26 [.val v] [] [] 0 (fun (w : Value) K' => Froz K' w n 1 (urow f)) (fun w => ⟨.val w, [], 0⟩) := by
  refine hcx_of_run Try.func26 rfl (fun B hB hK hpin => ?_)
  have hFz : Fz B K M0 B K := .refl hB hK
  refine goJ hB rfl rfl (by first | exact conj_nil | simp [conj]) ?_
  obtain ⟨base, room, rfl, e2, e3⟩ := id hF
  refine run_vnil isSl23.choose_spec rfl rfl rfl conj_nil (fun hb => ⟨?_, e2 hb⟩) rfl ?_
  · rcases Nat.eq_zero_or_pos n with h | h
    · exact h
    · obtain ⟨_, b, o, _, _, _, h5, _⟩ := e3 h
      rw [hb] at h5; cases h5
  refine goJ hB rfl rfl (by first | exact conj_nil | simp [conj]) ?_
  refine run_cond rfl (fun hb => ?_) (fun hb => ?_)
  · have h0 : n = 0 := by
      rcases Nat.eq_zero_or_pos n with h | h
      · exact h
      · obtain ⟨_, b, o, _, _, _, h5, _⟩ := e3 h
        rw [h5] at hb; cases hb
    subst h0
    refine goJ hB rfl rfl (by first | exact conj_nil | simp [conj]) ?_
    refine run_to hpin [5] (nx' := 1) (rest' := []) (sl' := [(2, .sq 0 0 0 1 0 .own)]) (hp' := [(0, .row 0 0 0 1 (urow f) 3)]) rfl rfl ?_ ?_
    · simp [conj, less_rfl, ren_urow, renR_urow]
    refine run_freeze hB hK 2 rfl rfl (Nat.le_refl _) (fun _ _ _ _ => rfl) rfl (fun w B' K' e1 e7 e8 => ?_)
    refine run_retF e7 (hpin.fz e7 e8) w e1 [] rfl rfl (by first | exact conj_nil | simp [conj]) rfl ?_
    simp [conj, less_rfl]
  · refine goJ hB rfl rfl (by first | exact conj_nil | simp [conj]) ?_
    refine run_open hK 6 hF (by decide) rfl (fun off => ?_)
    refine goJ hB rfl rfl (by simp [conj]; exact ⟨by omega, by omega, fun i _ => rfl⟩) ?_
    refine run_close (.inl rfl) ?_
    refine run_to hpin [2] (nx' := 1) (rest' := []) (sl' := [(2, .sq 0 0 0 1 n .own)]) (hp' := [(0, .row 0 n n 1 (urow f) 3)]) rfl rfl ?_ ?_
    · simp [conj, less_rfl, ren_urow, renR_urow]
      refine fun i hi => Less.of ?_
      simp only [appF, Nat.zero_add]
      rw [show Nat.blt i 0 = false from by cases i <;> rfl]; rfl
    refine run_freeze hB hK 2 rfl rfl (Nat.le_refl _) (fun _ _ _ _ => rfl) rfl (fun w B' K' e1 e7 e8 => ?_)
    refine run_retF e7 (hpin.fz e7 e8) w e1 [] rfl rfl (by first | exact conj_nil | simp [conj]) rfl ?_
    simp [conj, less_rfl]
end Sx
