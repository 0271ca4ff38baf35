/- The comparison of two candidates: what the call gives. Conditions: as each theorem says. -/
import Derived.Test.YtpjabkjacldgcaaVa
import Derived.Test.YtpjabkjacldgcaaEng26
namespace Sx
open Go Go.Proofs
def F31 : List SV → Option (List Prop × SV)
  | [.int .i64 a, .int .i64 b] => some ([], .int .i64 (cmpI a b))
  | _ => none
theorem F31_ok : PureOk Try.prog 31 F31 := by
  intro xs cs r h hc
  unfold F31 at h
  split at h <;> first | exact (none_ne h).elim | skip
  simp only [Option.some.injEq, Prod.mk.injEq] at h; obtain ⟨rfl, rfl⟩ := h
  exact ⟨rfl, cmp_pure _ _⟩
def s2 : SumL := [(31, F31), (25, F25), (24, F24), (23, F23), (19, F23)]
theorem s2_ok : SumOk Try.prog (sumOf s2) := sumOk_cons F31_ok (sumOk_cons F25_ok (sumOk_cons F24_ok (sumOk_cons F23_ok (sumOk_cons F19_ok (sumOk_nil _)))))
structure Cd where
  b : Int
  v : Int
  p : Int
  a : Int
abbrev Cd.sv (c : Cd) : SV := cand c.b c.v c.p c.a
def Cd.ok (c : Cd) : Bool := rightB c.v c.p c.a
def Cd.use (c : Cd) : Bool := decide (c.v < c.p)
def orI (a b : Int) : Int := if a = 0 then b else a
def cmpC (x y : Cd) : Int :=
  if scD x.v = 0 ∧ scD y.v ≠ 0 then -1
  else if scD x.v ≠ 0 ∧ scD y.v = 0 then 1
  else if scD x.v ≠ 0 ∧ scN x.v x.p x.a * scD y.v ≠ scN y.v y.p y.a * scD x.v then cmpI (scN y.v y.p y.a * scD x.v) (scN x.v x.p x.a * scD y.v)
  else orI (cmpI y.a x.a) (cmpI x.b y.b)
theorem sc_bound (c : Cd) (h : c.ok = true) : 0 ≤ scN c.v c.p c.a ∧ scN c.v c.p c.a ≤ 562949953421312 ∧ 0 ≤ scD c.v ∧ scD c.v ≤ 1024 := by
  unfold Cd.ok at h
  rw [rightB_iff] at h
  have := mul_bound (c.p - c.v) c.a (by omega) (by omega) (by omega) (by omega)
  unfold scN scD
  split <;> omega
theorem mul_bound2 (x a : Int) (h1 : 0 ≤ x) (h2 : x ≤ 562949953421312) (h3 : 0 ≤ a) (h4 : a ≤ 1024) : 0 ≤ x * a ∧ x * a ≤ 576460752303423488 :=
  ⟨Int.mul_nonneg h1 h3, by have := Int.mul_le_mul h2 h4 h3 (by omega); omega⟩
set_option maxRecDepth 4000 in
theorem compare_pure (x y : Cd) (hx : x.ok = true) (hy : y.ok = true) : Pure Try.prog 26 [x.sv, y.sv] (.int .i64 (cmpC x y)) := by
  have bx := sc_bound x hx
  have bY := sc_bound y hy
  have m1 := mul_bound2 (scN x.v x.p x.a) (scD y.v) (by omega) (by omega) (by omega) (by omega)
  have m2 := mul_bound2 (scN y.v y.p y.a) (scD x.v) (by omega) (by omega) (by omega) (by omega)
  have hx' : rightB x.v x.p x.a = true := hx
  have hy' : rightB y.v y.p y.a = true := hy
  refine pure_of_run Try.func26 rfl (fun w => ?_)
  refine ex s2_ok 300 rfl (by simp [conj]) ?_
  refine run_draw0 mixed (fun t => ?_)
  refine run_draw (M := mode s2) 8 named (Base.all_ok w) s2_ok rfl rfl rfl rfl rfl (by simp only [conj, hx', hy', and_true]) (fun t => ?_)
  refine run_drawE rfl ?_
  refine ex s2_ok 300 rfl (by simp [conj]) ?_
  refine run_cond rfl (fun h => ?_) (fun h => ?_)
  · simp at h
    refine ex s2_ok 300 rfl (by simp [conj]) ?_
    exact fin rfl (by simp [conj]) rfl (by simp [cmpC, h])
  have h1 : ¬ (scD x.v = 0 ∧ scD y.v ≠ 0) := by intro g; simp [g.1, g.2] at h
  clear h
  refine ex s2_ok 300 rfl (by simp [conj]) ?_
  refine run_cond rfl (fun h => ?_) (fun h => ?_)
  · simp at h
    refine ex s2_ok 300 rfl (by simp [conj]) ?_
    exact fin rfl (by simp [conj]) rfl (by simp [cmpC, h])
  have h2 : ¬ (scD x.v ≠ 0 ∧ scD y.v = 0) := by intro g; simp [g.1, g.2] at h
  clear h
  refine ex s2_ok 300 rfl (by simp [conj, Fits_i64]; refine ⟨fun _ => ⟨?_, ?_⟩, fun _ => ⟨?_, ?_⟩⟩ <;> omega) ?_
  refine run_cond rfl (fun h => ?_) (fun h => ?_)
  · have h3 : scD x.v ≠ 0 ∧ scN x.v x.p x.a * scD y.v ≠ scN y.v y.p y.a * scD x.v := by simpa using h
    refine ex s2_ok 300 rfl (by simp only [conj, Fits_i64, and_true, true_and]; omega) ?_
    exact fin rfl (by simp [conj]) rfl (by unfold cmpC; rw [if_neg h1, if_neg h2, if_pos h3])
  have h3 : ¬ (scD x.v ≠ 0 ∧ scN x.v x.p x.a * scD y.v ≠ scN y.v y.p y.a * scD x.v) := by intro g; simp [g.1, g.2] at h
  clear h
  have hfin : cmpC x y = orI (cmpI y.a x.a) (cmpI x.b y.b) := by unfold cmpC; rw [if_neg h1, if_neg h2, if_neg h3]
  refine ex s2_ok 300 rfl (by simp [conj]) ?_
  refine run_draw0 mixed (fun t => ?_)
  refine run_draw (M := mode s2) 10 named (Base.all_ok w) s2_ok rfl rfl rfl rfl rfl (by simp only [conj]) (fun t => ?_)
  refine run_draw1 rfl rfl rfl ?_
  refine ex s2_ok 300 rfl (by simp [conj]) ?_
  refine run_draw1 rfl rfl rfl ?_
  refine ex s2_ok 300 rfl (by simp [conj]) ?_
  refine run_loop ?_
  refine ex s2_ok 300 rfl (by simp [conj, Fits_i64]) ?_
  refine run_cond rfl (fun _ => ?_) (fun h => by simp at h)
  refine ex s2_ok 300 rfl (by simp [conj, Fits_i64]) ?_
  refine run_cond rfl (fun h => ?_) (fun h => ?_)
  · refine ex s2_ok 300 rfl (by simp [conj, Fits_i64]) ?_
    refine run_draw (M := mode s2) 1 named (Base.all_ok w) s2_ok rfl rfl rfl rfl rfl (by simp only [conj]) (fun t => ?_)
    refine run_drawE rfl ?_
    refine ex s2_ok 300 rfl (by simp [conj, Fits_i64]) ?_
    exact fin rfl (by simp [conj]) rfl (by rw [hfin]; unfold orI; rw [if_neg (by simpa using h)])
  · have h4 : cmpI y.a x.a = 0 := by simpa using h
    refine ex s2_ok 300 rfl (by simp [conj, Fits_i64]) ?_
    refine run_back ?_
    refine ex s2_ok 300 rfl (by simp [conj, Fits_i64]) ?_
    refine run_cond rfl (fun _ => ?_) (fun h => by simp at h)
    refine ex s2_ok 300 rfl (by simp [conj, Fits_i64]) ?_
    refine run_cond rfl (fun h => ?_) (fun h => ?_)
    · refine ex s2_ok 300 rfl (by simp [conj, Fits_i64]) ?_
      refine run_draw (M := mode s2) 1 named (Base.all_ok w) s2_ok rfl rfl rfl rfl rfl (by simp only [conj]) (fun t => ?_)
      refine run_drawE rfl ?_
      refine ex s2_ok 300 rfl (by simp [conj, Fits_i64]) ?_
      exact fin rfl (by simp [conj]) rfl (by rw [hfin]; unfold orI; rw [if_pos h4])
    · have h5 : cmpI x.b y.b = 0 := by simpa using h
      refine ex s2_ok 300 rfl (by simp [conj, Fits_i64]) ?_
      refine run_back ?_
      refine ex s2_ok 300 rfl (by simp [conj, Fits_i64]) ?_
      refine run_cond rfl (fun h => by simp at h) (fun _ => ?_)
      refine ex s2_ok 300 rfl (by simp [conj, Fits_i64]) ?_
      refine run_draw (M := mode s2) 1 named (Base.all_ok w) s2_ok rfl rfl rfl rfl rfl (by simp only [conj]) (fun t => ?_)
      refine run_drawE rfl ?_
      refine ex s2_ok 300 rfl (by simp [conj, Fits_i64]) ?_
      exact fin rfl (by simp [conj]) rfl (by rw [hfin]; unfold orI; rw [if_pos h4, h5])
def F26 : List SV → Option (List Prop × SV)
  | [.agg [.int .i64 b, .int .i64 v, .int .i64 p, .int .i64 a], .agg [.int .i64 b', .int .i64 v', .int .i64 p', .int .i64 a']] =>
    some ([rightB v p a = true, rightB v' p' a' = true], .int .i64 (cmpC ⟨b, v, p, a⟩ ⟨b', v', p', a'⟩))
  | _ => none
theorem F26_ok : PureOk Try.prog 26 F26 := by
  intro xs cs r h hc
  unfold F26 at h
  split at h <;> first | exact (none_ne h).elim | skip
  simp only [Option.some.injEq, Prod.mk.injEq] at h; obtain ⟨rfl, rfl⟩ := h
  exact ⟨rfl, compare_pure ⟨_, _, _, _⟩ ⟨_, _, _, _⟩ hc.head (show rightB _ _ _ = true from hc _ (List.mem_cons_of_mem _ (List.mem_cons_self ..)))⟩
end Sx
