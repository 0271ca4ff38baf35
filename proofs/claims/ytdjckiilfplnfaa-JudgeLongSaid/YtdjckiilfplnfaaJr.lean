/- Package judge: Finals, up to the sort. Conditions: as each theorem says. -/
import Derived.Test.YtdjckiilfplnfaaJn
set_option linter.unusedSimpArgs false
set_option linter.unusedVariables false
namespace Sx
open Go Go.Proofs
set_option maxRecDepth 100000
set_option pp.deepTerms true
set_option pp.maxSteps 10000000
theorem units_le {H : Hi} (hv : VHi H) : (nU H : Int) ≤ 4096 := by
  have h1 := hv.u1
  have h3 := hv.b2
  have hum := units_mul hv
  have := Int.mul_le_mul_of_nonneg_left h1 (Int.natCast_nonneg (nU H))
  omega
set_option maxHeartbeats 4000000 in
theorem finals13_long {K : Kn} {H : Hi} {vo vc : Value} {V : Nat → Value} (h : HOK K H vo vc V) (hv : VHi H) (hnc24 : H.nc ≤ 24) (u : Nat) (hu : u < nU H) (hlong : ∃ e, e ≤ H.nc ∧ 12 < lenE H (u : Nat) e) (hvf : ∀ i, i < H.m → ∀ k, k < (H.op i).n → Fits .i64 ((H.op i).v k)) :
    HCK Try.prog K 13 [hA H vo vc, i64 u] [] [] 0 (fun _ : Unit => True) (fun _ => ⟨.tup [.nilsl, i64 5], [], 0⟩) := by
  have h1 := hv.u1
  have h2 := hv.b1
  have hnU := units_le hv
  have hb2 := hv.b2
  have hum := units_mul hv
  have hdiv : H.blocks / H.unit = (nU H : Int) := by
    unfold nU
    rw [Int.toNat_of_nonneg (Int.ediv_nonneg (by omega) (by omega))]
  have hub : ((u : Int) + 1) * H.unit ≤ H.blocks := by
    rw [← hum]; exact Int.mul_le_mul_of_nonneg_right (by omega) (by omega)
  refine hck_of_run Try.func13 rfl (fun B hB hK hpin => ?_)
  refine goT hB [] 400 rfl (by first | exact conj_nil | simp [conj]) ?_
  refine run_callCK (valid_hck h true (by simp [hv])) named hB hK [] rfl rfl rfl rfl (by first | exact conj_nil | simp [conj]) (by simp [conj, less_rfl]) ?_
  rintro ⟨⟩ _
  refine ⟨show 0 ≤ 0 by omega, _, _, _, rfl, rfl, rfl, ?_⟩
  refine goT hB [(13, 16)] 400 rfl (by first | exact conj_nil | simp [conj]) ?_
  refine run_ff (by simp) ?_
  refine goT hB [(13, 24)] 400 rfl (by simp [conj, Fits_i64, hdiv]; omega) ?_
  rw [hdiv]
  refine run_ff (by simp; omega) ?_
  refine goT hB [] 400 rfl (by first | exact conj_nil | simp [conj]) ?_
  refine run_callCK (finals_hck h hv hnc24 (u : Int) (by omega) hub hvf) named hB hK [] rfl rfl rfl rfl (by first | exact conj_nil | simp [conj]) (by simp [conj, less_rfl]) ?_
  rintro (_ | L) hz
  · refine ⟨show 0 ≤ 0 by omega, _, _, _, rfl, rfl, rfl, ?_⟩
    refine goT hB [] 400 rfl (by first | exact conj_nil | simp [conj]) ?_
    refine run_retC hpin () trivial [] rfl rfl (by first | exact conj_nil | simp [conj]) rfl ?_
    simp [conj, less_rfl]
  · obtain ⟨e, he, hl⟩ := hlong
    have := hz.1 e he
    omega
end Sx
