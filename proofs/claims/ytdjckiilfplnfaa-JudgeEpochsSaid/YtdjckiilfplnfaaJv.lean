/- Chapter 47's reference: Epoch. Conditions: as each theorem says. -/
import Derived.Test.YtdjckiilfplnfaaJc
set_option linter.unusedSimpArgs false
set_option linter.unusedVariables false
namespace Sx
open Go Go.Proofs
set_option maxRecDepth 100000
set_option pp.deepTerms true
set_option pp.maxSteps 10000000
set_option maxHeartbeats 4000000 in
theorem epochR_hck {K : Kn} {H : Hi} {vo vc : Value} {V : Nat → Value} (h : HOK K H vo vc V) (t : Int) :
    HCK Try.prog K 20 [hA H vo vc, i64 t] [] [] 0 (fun _ : Unit => True) (fun _ => ⟨i64 (ep H t), [], 0⟩) := by
  have hnc := h.nc
  refine hck_of_run Try.func20 rfl (fun B hB hK hpin => ?_)
  refine goT hB [] 3 rfl (by first | exact conj_nil | simp [conj]) ?_
  refine run_openB hK 0 3 h.c (by decide) rfl rfl (fun _ => rfl) (fun _ => rfl) (fun o1 => ?_)
  refine goT hB [] 400 rfl (by first | exact conj_nil | simp [conj]) ?_
  refine run_loop ?_
  have hle : ∀ i, cntB (fun i => decide (H.c i ≤ t)) i ≤ i := fun i => by
    induction i with
    | zero => exact Nat.le_refl _
    | succ i ih =>
      unfold cntB
      cases decide (H.c i ≤ t) with
      | true => rw [cond_true]; omega
      | false => rw [cond_false]; omega
  refine run_inv (ι := Nat) hpin (fun i => i ≤ H.nc) (fun i => H.nc - i)
    (fun i => [(6, i64 i), (5, i64 (cntB (fun i => decide (H.c i ≤ t)) i)), (2, .ptr 0 0), (1, i64 t)]) (fun _ => []) (fun _ => [(0, .cells [i64 H.unit, i64 H.blocks, .val vo, .sq 1 o1 0 1 H.nc .no] 25)]) 2 0 (Nat.zero_le _) [0, 1] rfl rfl (by simp [conj, less_rfl, ren_urow, renR_urow, cntB]) ?_
  intro i hi ih
  refine goT hB [(20, 11)] 400 rfl (by clear ih; first | exact conj_nil | simp [conj]) ?_
  by_cases hin : i < H.nc
  · have e0 : 0 + ((i : Nat) : Int).toNat = i := by omega
    have ih := ih (i + 1) (by omega) (by omega)
    have hs : cntB (fun i => decide (H.c i ≤ t)) (i + 1) = cntB (fun i => decide (H.c i ≤ t)) i + (bif decide (H.c i ≤ t) then 1 else 0) := rfl
    have := hle i
    refine run_tt (by simpa using hin) ?_
    refine goT hB [(20, 20)] 400 rfl (by clear ih; simp [conj, hin]) ?_
    rw [e0]
    by_cases hc : H.c i ≤ t
    · rw [hs, decide_eq_true hc, cond_true] at ih
      refine run_tt (by simpa using hc) ?_
      refine goT hB [] 400 rfl (by clear ih; simp [conj, Fits_i64]; omega) ?_
      refine run_back ?_
      refine run_to hpin [0, 1] rfl rfl ?_ ih
      clear ih
      simp [conj, less_rfl, ren_urow, renR_urow]
    · rw [hs, decide_eq_false hc, cond_false, Nat.add_zero] at ih
      refine run_ff (by simpa using hc) ?_
      refine goT hB [] 400 rfl (by clear ih; simp [conj, Fits_i64]; omega) ?_
      refine run_back ?_
      refine run_to hpin [0, 1] rfl rfl ?_ ih
      clear ih
      simp [conj, less_rfl, ren_urow, renR_urow]
  · clear ih
    have hie : i = H.nc := by omega
    subst hie
    refine run_ff (by simp) ?_
    refine goT hB [] 400 rfl (by first | exact conj_nil | simp [conj]) ?_
    refine run_close (.inl rfl) ?_
    refine run_retC hpin () trivial [] rfl rfl (by first | exact conj_nil | simp [conj]) rfl ?_
    simp [conj, less_rfl, ep]
end Sx
