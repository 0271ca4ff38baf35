/- Chapter 47's reference: Less. Conditions: as each theorem says. -/
import Derived.Test.YtdjckiilfplnfaaJq
set_option linter.unusedSimpArgs false
set_option linter.unusedVariables false
namespace Sx
open Go Go.Proofs
set_option maxRecDepth 100000
set_option pp.deepTerms true
set_option pp.maxSteps 10000000
theorem cmpR_step (f g : Nat → Int) (n i : Nat) (hin : i < n) : cmpR f g n (n - i) = if f i = g i then cmpR f g n (n - (i + 1)) else cmpI (f i) (g i) := by
  have e : n - i = (n - (i + 1)) + 1 := by omega
  rw [e]
  show (if f (n - (n - (i + 1) + 1)) = g (n - (n - (i + 1) + 1)) then _ else _) = _
  rw [show n - (n - (i + 1) + 1) = i by omega]
set_option maxHeartbeats 4000000 in
theorem less_hck {K : Kn} (v w : Value) (n : Nat) (hn : n ≤ 100) (f g : Nat → Int) (hv : Froz K v n 1 (urow f)) (hw : Froz K w n 1 (urow g)) :
    HCK Try.prog K 29 [.val v, .val w] [] [] 0 (fun _ : Unit => True) (fun _ => ⟨.sb (decide (cmpR f g n n < 0)), [], 0⟩) := by
  refine hck_of_run Try.func29 rfl (fun B hB hK hpin => ?_)
  refine run_open hK 0 hv (by decide) rfl (fun o1 => ?_)
  refine run_open hK 1 hw (by decide) rfl (fun o2 => ?_)
  refine goT hB [] 400 rfl (by first | exact conj_nil | simp [conj]) ?_
  refine run_loop ?_
  refine run_inv (ι := Nat) hpin (fun i => i ≤ n ∧ cmpR f g n n = cmpR f g n (n - i)) (fun i => n - i)
    (fun i => [(5, i64 i), (1, .sq 1 o2 0 1 n .no), (0, .sq 0 o1 0 1 n .no)]) (fun _ => []) (fun _ => []) 2 0 ⟨Nat.zero_le _, rfl⟩ [0, 1] rfl rfl (by simp [conj, less_rfl, ren_urow, renR_urow]) ?_
  rintro i ⟨hi, hc⟩ ih
  refine goT hB [(29, 9)] 400 rfl (by clear ih; first | exact conj_nil | simp [conj]) ?_
  by_cases hin : i < n
  · have e0 : 0 + ((i : Nat) : Int).toNat = i := by omega
    have hstep := cmpR_step f g n i hin
    refine run_tt (by simpa using hin) ?_
    refine goT hB [(29, 20)] 400 rfl (by clear ih; simp [conj, hin]) ?_
    rw [e0]
    by_cases h1 : f i = g i
    · refine run_ff (by simp [h1]) ?_
      have ih := ih (i + 1) ⟨by omega, by rw [hc, hstep, if_pos h1]⟩ (by omega)
      refine goT hB [] 400 rfl (by clear ih; simp [conj, Fits_i64]; omega) ?_
      refine run_back ?_
      refine run_to hpin [0, 1] rfl rfl ?_ ih
      clear ih
      simp [conj, less_rfl, ren_urow, renR_urow]
    · clear ih
      refine run_tt (by simp [h1]) ?_
      refine goT hB [(29, 4)] 400 rfl (by simp [conj, hin]) ?_
      rw [e0]
      have hr : cmpR f g n n = cmpI (f i) (g i) := by rw [hc, hstep, if_neg h1]
      by_cases h2 : f i < g i
      · have : decide (cmpR f g n n < 0) = true := by rw [hr]; unfold cmpI; rw [if_pos h2]; rfl
        rw [this]
        refine run_tt (by simpa using h2) ?_
        refine goT hB [] 400 rfl (by first | exact conj_nil | simp [conj]) ?_
        refine run_close (.inl rfl) ?_
        refine run_close (.inl rfl) ?_
        refine run_retC hpin () trivial [] rfl rfl (by first | exact conj_nil | simp [conj]) rfl ?_
        simp [conj, less_rfl]
      · have : decide (cmpR f g n n < 0) = false := by rw [hr]; unfold cmpI; rw [if_neg h2, if_pos (by omega)]; rfl
        rw [this]
        refine run_ff (by simpa using h2) ?_
        refine goT hB [] 400 rfl (by first | exact conj_nil | simp [conj]) ?_
        refine run_close (.inl rfl) ?_
        refine run_close (.inl rfl) ?_
        refine run_retC hpin () trivial [] rfl rfl (by first | exact conj_nil | simp [conj]) rfl ?_
        simp [conj, less_rfl]
  · clear ih
    have hie : i = n := by omega
    subst hie
    have : decide (cmpR f g i i < 0) = false := by rw [hc, Nat.sub_self]; rfl
    rw [this]
    refine run_ff (by simp) ?_
    refine goT hB [] 400 rfl (by first | exact conj_nil | simp [conj]) ?_
    refine run_close (.inl rfl) ?_
    refine run_close (.inl rfl) ?_
    refine run_retC hpin () trivial [] rfl rfl (by first | exact conj_nil | simp [conj]) rfl ?_
    simp [conj, less_rfl]
end Sx
