/- Package judge: Finals, up to the sort. Conditions: as each theorem says. -/
import Derived.Test.YtdjckiilfplnfaaJn
set_option linter.unusedSimpArgs false
set_option linter.unusedVariables false
namespace Sx
open Go Go.Proofs
set_option maxRecDepth 100000
set_option pp.deepTerms true
set_option pp.maxSteps 10000000
theorem units_le {H : Hi} (hv : VHi H) : (nU H : Int) ≤ 4096 := by
  have h1 := hv.u1
  have h3 := hv.b2
  have hum := units_mul hv
  have := Int.mul_le_mul_of_nonneg_left h1 (Int.natCast_nonneg (nU H))
  omega
theorem finals13_no {K : Kn} {H : Hi} {vo vc : Value} {V : Nat → Value} (h : HOK K H vo vc V) (hv : ¬ VHi H) (u : Int) :
    HCK Try.prog K 13 [hA H vo vc, i64 u] [] [] 0 (fun _ : Unit => True) (fun _ => ⟨.tup [.nilsl, i64 2], [], 0⟩) := by
  refine hck_of_run Try.func13 rfl (fun B hB hK hpin => ?_)
  refine goT hB [] 400 rfl (by first | exact conj_nil | simp [conj]) ?_
  refine run_callCK (valid_hck h false (by simp [hv])) named hB hK [] rfl rfl rfl rfl (by first | exact conj_nil | simp [conj]) (by simp [conj, less_rfl]) ?_
  rintro ⟨⟩ _
  refine ⟨show 0 ≤ 0 by omega, _, _, _, rfl, rfl, rfl, ?_⟩
  refine goT hB [] 400 rfl (by first | exact conj_nil | simp [conj]) ?_
  refine run_retC hpin () trivial [] rfl rfl (by first | exact conj_nil | simp [conj]) rfl ?_
  simp [conj, less_rfl]
set_option maxHeartbeats 4000000 in
theorem finals13_range {K : Kn} {H : Hi} {vo vc : Value} {V : Nat → Value} (h : HOK K H vo vc V) (hv : VHi H) (u : Int) (hu : u < 0 ∨ (nU H : Int) ≤ u) :
    HCK Try.prog K 13 [hA H vo vc, i64 u] [] [] 0 (fun _ : Unit => True) (fun _ => ⟨.tup [.nilsl, i64 3], [], 0⟩) := by
  have h1 := hv.u1
  have h2 := hv.b1
  have hnU := units_le hv
  have hb2 := hv.b2
  have hdiv : H.blocks / H.unit = (nU H : Int) := by
    unfold nU
    rw [Int.toNat_of_nonneg (Int.ediv_nonneg (by omega) (by omega))]
  refine hck_of_run Try.func13 rfl (fun B hB hK hpin => ?_)
  refine goT hB [] 400 rfl (by first | exact conj_nil | simp [conj]) ?_
  refine run_callCK (valid_hck h true (by simp [hv])) named hB hK [] rfl rfl rfl rfl (by first | exact conj_nil | simp [conj]) (by simp [conj, less_rfl]) ?_
  rintro ⟨⟩ _
  refine ⟨show 0 ≤ 0 by omega, _, _, _, rfl, rfl, rfl, ?_⟩
  refine goT hB [(13, 16)] 400 rfl (by first | exact conj_nil | simp [conj]) ?_
  by_cases hn : u < 0
  · refine run_tt (by simpa using hn) ?_
    refine goT hB [] 400 rfl (by first | exact conj_nil | simp [conj]) ?_
    refine run_retC hpin () trivial [] rfl rfl (by first | exact conj_nil | simp [conj]) rfl ?_
    simp [conj, less_rfl]
  · refine run_ff (by simpa using hn) ?_
    refine goT hB [(13, 24)] 400 rfl (by simp [conj, Fits_i64, hdiv]; omega) ?_
    rw [hdiv]
    refine run_tt (by simp; omega) ?_
    refine goT hB [] 400 rfl (by first | exact conj_nil | simp [conj]) ?_
    refine run_retC hpin () trivial [] rfl rfl (by first | exact conj_nil | simp [conj]) rfl ?_
    simp [conj, less_rfl]
end Sx
