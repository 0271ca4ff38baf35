/- Score and Compare of the package and of its reference: what the calls give. Conditions: as each theorem says. -/
import Derived.Test.YtpjabkjacldgcaaVb
namespace Sx
open Go Go.Proofs
def s3 : SumL := [(26, F26), (31, F31), (25, F25), (24, F24), (23, F23), (19, F23)]
theorem s3_ok : SumOk Try.prog (sumOf s3) := sumOk_cons F26_ok s2_ok
def sN (c : Cd) : Int := if c.ok ∧ c.use then scN c.v c.p c.a else 0
def sD (c : Cd) : Int := if c.ok ∧ c.use then scD c.v else 0
def sE (c : Cd) : Int := if c.ok then if c.use then 0 else 9 else 2
abbrev scT (c : Cd) : SV := .tup [.int .i64 (sN c), .int .i64 (sD c), .int .i64 (sE c)]
theorem Score_pure (c : Cd) : Pure Try.prog 13 [c.sv] (scT c) := by
  refine pure_of_run Try.func13 rfl (fun w => ?_)
  refine ex s3_ok 300 rfl (by simp [conj]) ?_
  refine run_cond rfl (fun h => ?_) (fun h => ?_)
  · have h : c.ok = false := by simpa [Cd.ok] using h
    refine ex s3_ok 300 rfl (by simp [conj]) ?_
    exact fin rfl (by simp [conj]) rfl (by simp [scT, sN, sD, sE, h])
  have h1 : c.ok = true := by simpa [Cd.ok] using h
  clear h
  refine ex s3_ok 300 rfl (by simp [conj]) ?_
  refine run_cond rfl (fun h => ?_) (fun h => ?_)
  · have h : c.use = false := by simpa [Cd.use] using h
    refine ex s3_ok 300 rfl (by simp [conj]) ?_
    exact fin rfl (by simp [conj]) rfl (by simp [scT, sN, sD, sE, h, h1])
  have h2 : c.use = true := by simpa [Cd.use] using h
  clear h
  have h1' : rightB c.v c.p c.a = true := h1
  refine ex s3_ok 300 rfl (by simp [conj, h1']) ?_
  refine run_draw0 mixed (fun t => ?_)
  refine run_draw (M := mode s3) 7 named (Base.all_ok w) s3_ok rfl rfl rfl rfl rfl (by simp [conj]) (fun t => ?_)
  refine run_drawE rfl ?_
  refine ex s3_ok 300 rfl (by simp [conj]) ?_
  exact fin rfl (by simp [conj]) rfl (by simp [scT, sN, sD, sE, h1, h2])
theorem rScore_pure (c : Cd) : Pure Try.prog 14 [c.sv] (scT c) := by
  refine pure_of_run Try.func14 rfl (fun w => ?_)
  refine ex s3_ok 300 rfl (by simp [conj]) ?_
  refine run_cond rfl (fun h => ?_) (fun h => ?_)
  · have h : c.ok = false := by simpa [Cd.ok] using h
    refine ex s3_ok 300 rfl (by simp [conj]) ?_
    exact fin rfl (by simp [conj]) rfl (by simp [scT, sN, sD, sE, h])
  have h1 : c.ok = true := by simpa [Cd.ok] using h
  clear h
  have hb := h1
  unfold Cd.ok at hb
  rw [rightB_iff] at hb
  refine ex s3_ok 300 rfl (by simp [conj]) ?_
  refine run_cond rfl (fun h => ?_) (fun h => ?_)
  · have h : c.use = false := by simp at h; simp [Cd.use, h]
    refine ex s3_ok 300 rfl (by simp [conj]) ?_
    exact fin rfl (by simp [conj]) rfl (by simp [scT, sN, sD, sE, h, h1])
  have h2 : c.use = true := by simp at h; simp [Cd.use]; omega
  clear h
  refine ex s3_ok 300 rfl (by simp [conj]) ?_
  refine run_cond rfl (fun h => ?_) (fun h => ?_)
  · have h : c.v = 0 := by simpa using h
    refine ex s3_ok 300 rfl (by simp [conj]) ?_
    exact fin rfl (by simp [conj]) rfl (by simp [scT, sN, sD, sE, h, h1, h2, scN, scD])
  have h3 : c.v ≠ 0 := by simpa using h
  have := mul_bound (c.p - c.v) c.a (by omega) (by omega) (by omega) (by omega)
  refine ex s3_ok 300 rfl (by simp [conj]) ?_
  refine run_draw0 mixed (fun t => ?_)
  refine run_draw (M := mode s3) 14 named (Base.all_ok w) s3_ok rfl rfl rfl rfl rfl (by simp only [conj, Fits_i64, and_true, true_and]; omega) (fun t => ?_)
  refine run_drawE rfl ?_
  refine ex s3_ok 300 rfl (by simp [conj]) ?_
  exact fin rfl (by simp [conj]) rfl (by simp [scT, sN, sD, sE, h1, h2, scN, scD, h3])
theorem num_pure (e : Int) : Pure Try.prog 11 [.int .i64 e] (.int .i64 e) := by
  refine pure_of_run Try.func11 rfl (fun w => ?_)
  refine ex s3_ok 300 rfl (by simp [conj]) ?_
  exact fin rfl (by simp [conj]) rfl rfl
theorem four_pure (b v a : Int) : Pure Try.prog 17 [.int .i64 b, .int .i64 v, .int .i64 a] (cand b v 4 a) := by
  refine pure_of_run Try.func17 rfl (fun w => ?_)
  refine ex s3_ok 300 rfl (by simp [conj]) ?_
  exact fin rfl (by simp [conj]) rfl rfl
theorem Useful_pure (c : Cd) : Pure Try.prog 20 [c.sv] (.sb (c.ok && c.use)) := by
  refine pure_of_run Try.func20 rfl (fun w => ?_)
  refine ex s3_ok 300 rfl (by simp [conj]) ?_
  exact fin rfl (by simp [conj]) rfl rfl
theorem Compare_pure (x y : Cd) : Pure Try.prog 15 [x.sv, y.sv] (.int .i64 (if x.ok ∧ y.ok ∧ x.use ∧ y.use then cmpC x y else 0)) := by
  refine pure_of_run Try.func15 rfl (fun w => ?_)
  refine ex s3_ok 300 rfl (by simp [conj]) ?_
  refine run_cond rfl (fun h => ?_) (fun h => ?_)
  · refine ex s3_ok 300 rfl (by simp [conj]) ?_
    refine fin rfl (by simp [conj]) rfl ?_
    rw [if_neg]
    rintro ⟨g1, g2, g3, g4⟩
    have g1 : rightB x.v x.p x.a = true := g1
    have g2 : rightB y.v y.p y.a = true := g2
    simp only [Cd.use] at g3 g4
    rw [g1, g2, g3, g4] at h; simp at h
  have hh : x.ok = true ∧ y.ok = true ∧ x.use = true ∧ y.use = true := by
    simp only [Cd.ok, Cd.use]
    revert h
    cases rightB x.v x.p x.a <;> cases rightB y.v y.p y.a <;> cases decide (x.v < x.p) <;> cases decide (y.v < y.p) <;> simp
  have e1 : rightB x.v x.p x.a = true := hh.1
  have e2 : rightB y.v y.p y.a = true := hh.2.1
  refine ex s3_ok 300 rfl (by simp [conj, e1, e2]) ?_
  exact fin rfl (by simp [conj]) rfl (by rw [if_pos hh])
end Sx
