/- Chapter 47's reference: Valid, its first arms. Conditions: as each theorem says. -/
import Derived.Test.YtdjckiilfplnfaaJv
import Derived.Test.YtdjckiilfplnfaaJd
set_option linter.unusedSimpArgs false
set_option linter.unusedVariables false
namespace Sx
open Go Go.Proofs
set_option maxRecDepth 100000
set_option pp.deepTerms true
set_option pp.maxSteps 10000000
/-- What Valid asks of the numbers. -/
def VHead (H : Hi) : Prop := 1 ≤ H.unit ∧ H.unit ≤ 8 ∧ 1 ≤ H.blocks ∧ H.blocks ≤ 4096 ∧ H.blocks % H.unit = 0
set_option maxHeartbeats 4000000 in
theorem validR_head {K : Kn} {H : Hi} {vo vc : Value} {V : Nat → Value} (h : HOK K H vo vc V) (hf : Fits .i64 H.unit ∧ Fits .i64 H.blocks) (hv : ¬ VHead H) :
    HCK Try.prog K 14 [hA H vo vc] [] [] 0 (fun _ : Unit => True) (fun _ => ⟨.ff, [], 0⟩) := by
  refine hck_of_run Try.func14 rfl (fun B hB hK hpin => ?_)
  refine goT hB [(14, 10)] 400 rfl (by first | exact conj_nil | simp [conj]) ?_
  by_cases a1 : H.unit < 1
  · refine run_tt (by simpa using a1) ?_
    refine goT hB [] 400 rfl (by first | exact conj_nil | simp [conj]) ?_
    refine run_retC hpin () trivial [] rfl rfl (by first | exact conj_nil | simp [conj]) rfl ?_
    simp [conj, less_rfl]
  refine run_ff (by simpa using a1) ?_
  refine goT hB [(14, 14)] 400 rfl (by first | exact conj_nil | simp [conj]) ?_
  by_cases a2 : 8 < H.unit
  · refine run_tt (by simpa using a2) ?_
    refine goT hB [] 400 rfl (by first | exact conj_nil | simp [conj]) ?_
    refine run_retC hpin () trivial [] rfl rfl (by first | exact conj_nil | simp [conj]) rfl ?_
    simp [conj, less_rfl]
  refine run_ff (by simpa using a2) ?_
  refine goT hB [(14, 19)] 400 rfl (by first | exact conj_nil | simp [conj]) ?_
  by_cases a3 : H.blocks < 1
  · refine run_tt (by simpa using a3) ?_
    refine goT hB [] 400 rfl (by first | exact conj_nil | simp [conj]) ?_
    refine run_retC hpin () trivial [] rfl rfl (by first | exact conj_nil | simp [conj]) rfl ?_
    simp [conj, less_rfl]
  refine run_ff (by simpa using a3) ?_
  refine goT hB [(14, 24)] 400 rfl (by first | exact conj_nil | simp [conj]) ?_
  by_cases a4 : 4096 < H.blocks
  · refine run_tt (by simpa using a4) ?_
    refine goT hB [] 400 rfl (by first | exact conj_nil | simp [conj]) ?_
    refine run_retC hpin () trivial [] rfl rfl (by first | exact conj_nil | simp [conj]) rfl ?_
    simp [conj, less_rfl]
  refine run_ff (by simpa using a4) ?_
  refine goT hB [(14, 32)] 400 rfl (by simp [conj, Fits_i64]; omega) ?_
  have a5 : ¬ H.blocks % H.unit = 0 := fun q => hv ⟨by omega, by omega, by omega, by omega, q⟩
  refine run_tt (by simp [a5]) ?_
  refine goT hB [] 400 rfl (by first | exact conj_nil | simp [conj]) ?_
  refine run_retC hpin () trivial [] rfl rfl (by first | exact conj_nil | simp [conj]) rfl ?_
  simp [conj, less_rfl]
/-- What Valid asks of the cuts. -/
def VCut (H : Hi) (i : Nat) : Prop := 0 ≤ H.c i ∧ (0 < i → H.c (i - 1) < H.c i)
set_option maxHeartbeats 4000000 in
theorem validR_cuts {K : Kn} {H : Hi} {vo vc : Value} {V : Nat → Value} (h : HOK K H vo vc V) (hv : VHead H) (hno : ¬ ∀ i, i < H.nc → VCut H i) :
    HCK Try.prog K 14 [hA H vo vc] [] [] 0 (fun _ : Unit => True) (fun _ => ⟨.ff, [], 0⟩) := by
  obtain ⟨b1, b2, b3, b4, b5⟩ := hv
  have hnc := h.nc
  refine hck_of_run Try.func14 rfl (fun B hB hK hpin => ?_)
  refine goT hB [] 3 rfl (by first | exact conj_nil | simp [conj]) ?_
  refine run_openB hK 0 3 h.c (by decide) rfl rfl (fun _ => rfl) (fun _ => rfl) (fun o1 => ?_)
  refine goT hB [(14, 10)] 400 rfl (by first | exact conj_nil | simp [conj]) ?_
  refine run_ff (by simp; omega) ?_
  refine goT hB [(14, 14)] 400 rfl (by first | exact conj_nil | simp [conj]) ?_
  refine run_ff (by simp; omega) ?_
  refine goT hB [(14, 19)] 400 rfl (by first | exact conj_nil | simp [conj]) ?_
  refine run_ff (by simp; omega) ?_
  refine goT hB [(14, 24)] 400 rfl (by first | exact conj_nil | simp [conj]) ?_
  refine run_ff (by simp; omega) ?_
  refine goT hB [(14, 32)] 400 rfl (by simp [conj, Fits_i64]; omega) ?_
  refine run_ff (by simp [b5]) ?_
  refine goT hB [] 400 rfl (by first | exact conj_nil | simp [conj]) ?_
  refine run_loop ?_
  refine run_inv (ι := Nat) hpin (fun i => i ≤ H.nc ∧ ∀ k, k < i → VCut H k) (fun i => H.nc - i)
    (fun i => [(3, i64 i), (1, .ptr 0 0)]) (fun _ => []) (fun _ => [(0, .cells [i64 H.unit, i64 H.blocks, .val vo, .sq 1 o1 0 1 H.nc .no] 25)]) 2 0 ⟨Nat.zero_le _, fun k hk => absurd hk (Nat.not_lt_zero _)⟩ [0, 1] rfl rfl (by simp [conj, less_rfl, ren_urow, renR_urow]) ?_
  rintro i ⟨hi, hall⟩ ih
  refine goT hB [(14, 38)] 400 rfl (by clear ih; first | exact conj_nil | simp [conj]) ?_
  by_cases hin : i < H.nc
  · have e0 : 0 + ((i : Nat) : Int).toNat = i := by omega
    refine run_tt (by simpa using hin) ?_
    refine goT hB [(14, 64)] 400 rfl (by clear ih; simp [conj, hin, Fits_i64] <;> omega) ?_
    rw [e0, show 0 + ((i : Int) - 1).toNat = i - 1 by omega]
    by_cases hc : VCut H i
    · obtain ⟨c1, c2⟩ := hc
      have ih := ih (i + 1) ⟨by omega, fun k hk => by
        rcases Nat.lt_or_ge k i with q | q
        · exact hall k q
        · rw [show k = i by omega]; exact ⟨c1, c2⟩⟩ (by omega)
      refine run_ff (by
        clear ih
        simp only [Bool.or_eq_false_iff, Bool.and_eq_false_iff, decide_eq_false_iff_not]
        refine ⟨by omega, ?_⟩
        by_cases q : 0 < i
        · have := c2 q; exact .inr (by omega)
        · exact .inl (by omega)) ?_
      refine goT hB [] 400 rfl (by clear ih; simp [conj, Fits_i64]; omega) ?_
      refine run_back ?_
      refine run_to hpin [0, 1] rfl rfl ?_ ih
      clear ih
      simp [conj, less_rfl, ren_urow, renR_urow]
    · clear ih
      refine run_tt (by
        simp only [Bool.or_eq_true, Bool.and_eq_true, decide_eq_true_iff]
        by_cases q : H.c i < 0
        · exact .inl q
        · by_cases q2 : 0 < i
          · by_cases q3 : H.c i ≤ H.c (i - 1)
            · exact .inr ⟨by omega, q3⟩
            · exact absurd ⟨by omega, fun _ => by omega⟩ hc
          · exact absurd ⟨by omega, fun z => absurd z q2⟩ hc) ?_
      refine goT hB [] 400 rfl (by first | exact conj_nil | simp [conj]) ?_
      refine run_close (.inl rfl) ?_
      refine run_retC hpin () trivial [] rfl rfl (by first | exact conj_nil | simp [conj]) rfl ?_
      simp [conj, less_rfl]
  · exact absurd (fun k hk => hall k (by omega)) hno
end Sx
