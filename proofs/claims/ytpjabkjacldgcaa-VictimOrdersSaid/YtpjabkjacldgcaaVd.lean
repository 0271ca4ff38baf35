/- The reference's comparison, and the calls of works one by one. Conditions: as each theorem says. -/
import Derived.Test.YtpjabkjacldgcaaVc
namespace Sx
open Go Go.Proofs
theorem cand_of {xs : List SV} {b v p a : Int} (h : xs = [cand b v p a]) : xs = [(⟨b, v, p, a⟩ : Cd).sv] := h
def F13 : List SV → Option (List Prop × SV)
  | [.agg [.int .i64 b, .int .i64 v, .int .i64 p, .int .i64 a]] => some ([], scT ⟨b, v, p, a⟩)
  | _ => none
def F15 : List SV → Option (List Prop × SV)
  | [.agg [.int .i64 b, .int .i64 v, .int .i64 p, .int .i64 a], .agg [.int .i64 b', .int .i64 v', .int .i64 p', .int .i64 a']] =>
    some ([], .int .i64 (if (⟨b, v, p, a⟩ : Cd).ok ∧ (⟨b', v', p', a'⟩ : Cd).ok ∧ (⟨b, v, p, a⟩ : Cd).use ∧ (⟨b', v', p', a'⟩ : Cd).use then cmpC ⟨b, v, p, a⟩ ⟨b', v', p', a'⟩ else 0))
  | _ => none
def F20 : List SV → Option (List Prop × SV)
  | [.agg [.int .i64 b, .int .i64 v, .int .i64 p, .int .i64 a]] => some ([], .sb ((⟨b, v, p, a⟩ : Cd).ok && (⟨b, v, p, a⟩ : Cd).use))
  | _ => none
def F11 : List SV → Option (List Prop × SV)
  | [.int .i64 e] => some ([], .int .i64 e)
  | _ => none
def F17 : List SV → Option (List Prop × SV)
  | [.int .i64 b, .int .i64 v, .int .i64 a] => some ([], cand b v 4 a)
  | _ => none
theorem F13_ok : PureOk Try.prog 13 F13 := by
  intro xs cs r h hc
  unfold F13 at h
  split at h <;> first | exact (none_ne h).elim | skip
  simp only [Option.some.injEq, Prod.mk.injEq] at h; obtain ⟨rfl, rfl⟩ := h
  exact ⟨rfl, Score_pure ⟨_, _, _, _⟩⟩
theorem F14_ok : PureOk Try.prog 14 F13 := by
  intro xs cs r h hc
  unfold F13 at h
  split at h <;> first | exact (none_ne h).elim | skip
  simp only [Option.some.injEq, Prod.mk.injEq] at h; obtain ⟨rfl, rfl⟩ := h
  exact ⟨rfl, rScore_pure ⟨_, _, _, _⟩⟩
theorem F15_ok : PureOk Try.prog 15 F15 := by
  intro xs cs r h hc
  unfold F15 at h
  split at h <;> first | exact (none_ne h).elim | skip
  simp only [Option.some.injEq, Prod.mk.injEq] at h; obtain ⟨rfl, rfl⟩ := h
  exact ⟨rfl, Compare_pure ⟨_, _, _, _⟩ ⟨_, _, _, _⟩⟩
theorem F20_ok : PureOk Try.prog 20 F20 := by
  intro xs cs r h hc
  unfold F20 at h
  split at h <;> first | exact (none_ne h).elim | skip
  simp only [Option.some.injEq, Prod.mk.injEq] at h; obtain ⟨rfl, rfl⟩ := h
  exact ⟨rfl, Useful_pure ⟨_, _, _, _⟩⟩
theorem F11_ok : PureOk Try.prog 11 F11 := by
  intro xs cs r h hc
  unfold F11 at h
  split at h <;> first | exact (none_ne h).elim | skip
  simp only [Option.some.injEq, Prod.mk.injEq] at h; obtain ⟨rfl, rfl⟩ := h
  exact ⟨rfl, num_pure _⟩
theorem F17_ok : PureOk Try.prog 17 F17 := by
  intro xs cs r h hc
  unfold F17 at h
  split at h <;> first | exact (none_ne h).elim | skip
  simp only [Option.some.injEq, Prod.mk.injEq] at h; obtain ⟨rfl, rfl⟩ := h
  exact ⟨rfl, four_pure _ _ _⟩
def s4 : SumL := [(13, F13), (14, F13), (15, F15), (20, F20), (11, F11), (17, F17), (26, F26), (31, F31), (25, F25), (24, F24), (23, F23), (19, F23)]
theorem s4_ok : SumOk Try.prog (sumOf s4) := sumOk_cons F13_ok (sumOk_cons F14_ok (sumOk_cons F15_ok (sumOk_cons F20_ok (sumOk_cons F11_ok (sumOk_cons F17_ok s3_ok)))))

theorem cmpI_neg (a b : Int) : cmpI a b < 0 ↔ a < b := by unfold cmpI; split <;> (try split) <;> omega
theorem cmpI_zero (a b : Int) : cmpI a b = 0 ↔ a = b := by unfold cmpI; split <;> (try split) <;> omega
theorem fin_tt {f : FuncId} {w : World} {n : Nat} {sl : Slots} {td : List SI} {hp : Hp} {nx : Nat} {cs : List Prop} {b : Bool} (hv : resV Try.prog f sl hp [] = some (cs, .tt)) (hc : conj cs) (e : b = true) :
    Run Try.prog [] (Base.all w) f (Gives w (.sb b)) ⟨⟨fid f, n, sl, .code .ret :: td⟩, [], hp, nx⟩ := by
  subst e; exact run_ret hv hc (fun _ _ _ hs hu => gives_of (v := .sb true) hs hu rfl rfl)
theorem fin_ff {f : FuncId} {w : World} {n : Nat} {sl : Slots} {td : List SI} {hp : Hp} {nx : Nat} {cs : List Prop} {b : Bool} (hv : resV Try.prog f sl hp [] = some (cs, .ff)) (hc : conj cs) (e : b = false) :
    Run Try.prog [] (Base.all w) f (Gives w (.sb b)) ⟨⟨fid f, n, sl, .code .ret :: td⟩, [], hp, nx⟩ := by
  subst e; exact run_ret hv hc (fun _ _ _ hs hu => gives_of (v := .sb false) hs hu rfl rfl)
set_option maxRecDepth 4000 in
theorem Pref_pure (x y : Cd) (hx : x.ok = true) (hy : y.ok = true) (ux : x.use = true) (uy : y.use = true) : Pure Try.prog 21 [x.sv, y.sv] (.sb (decide (cmpC x y < 0))) := by
  have bx := sc_bound x hx
  have bY := sc_bound y hy
  have m1 := mul_bound2 (scN x.v x.p x.a) (scD y.v) (by omega) (by omega) (by omega) (by omega)
  have m2 := mul_bound2 (scN y.v y.p y.a) (scD x.v) (by omega) (by omega) (by omega) (by omega)
  have ex1 : sN x = scN x.v x.p x.a := by simp [sN, hx, ux]
  have ex2 : sD x = scD x.v := by simp [sD, hx, ux]
  have ey1 : sN y = scN y.v y.p y.a := by simp [sN, hy, uy]
  have ey2 : sD y = scD y.v := by simp [sD, hy, uy]
  refine pure_of_run Try.func21 rfl (fun w => ?_)
  refine ex s4_ok 300 rfl (by simp [conj]) ?_
  refine run_cond rfl (fun h => ?_) (fun h => ?_)
  · have h1 : scD x.v = 0 ∧ scD y.v ≠ 0 := by
      have : sD x = 0 ∧ 0 < sD y := by simpa using h
      rw [ex2, ey2] at this; omega
    refine ex s4_ok 300 rfl (by simp [conj]) ?_
    exact fin_tt rfl (by simp [conj]) (by simp [cmpC, h1])
  have h1 : ¬ (scD x.v = 0 ∧ scD y.v ≠ 0) := by
    intro g
    have : ¬ (sD x = 0 ∧ 0 < sD y) := by simpa using h
    rw [ex2, ey2] at this; omega
  clear h
  refine ex s4_ok 300 rfl (by simp [conj]) ?_
  refine run_cond rfl (fun h => ?_) (fun h => ?_)
  · have h2 : scD x.v ≠ 0 ∧ scD y.v = 0 := by
      have : 0 < sD x ∧ sD y = 0 := by simpa using h
      rw [ex2, ey2] at this; omega
    refine ex s4_ok 300 rfl (by simp [conj]) ?_
    exact fin_ff rfl (by simp [conj]) (by simp [cmpC, h2])
  have h2 : ¬ (scD x.v ≠ 0 ∧ scD y.v = 0) := by
    intro g
    have : ¬ (0 < sD x ∧ sD y = 0) := by simpa using h
    rw [ex2, ey2] at this; omega
  clear h
  refine ex s4_ok 300 rfl (by simp [conj, Fits_i64, ex1, ex2, ey1, ey2]; refine ⟨fun _ => ⟨?_, ?_⟩, fun _ => ⟨?_, ?_⟩⟩ <;> omega) ?_
  refine run_cond rfl (fun h => ?_) (fun h => ?_)
  · have h3 : scD x.v ≠ 0 ∧ scN x.v x.p x.a * scD y.v ≠ scN y.v y.p y.a * scD x.v := by
      have : 0 < sD x ∧ ¬ (sN x * sD y = sN y * sD x) := by simpa using h
      rw [ex1, ex2, ey1, ey2] at this; exact ⟨by omega, this.2⟩
    refine ex s4_ok 300 rfl (by simp only [conj, Fits_i64, and_true, ex1, ex2, ey1, ey2]; omega) ?_
    refine fin rfl (by simp [conj]) rfl ?_
    unfold cmpC; rw [if_neg h1, if_neg h2, if_pos h3]
    simp only [cmpI_neg, ex1, ex2, ey1, ey2]
  have h3 : ¬ (scD x.v ≠ 0 ∧ scN x.v x.p x.a * scD y.v ≠ scN y.v y.p y.a * scD x.v) := by
    rintro ⟨g1, g2⟩
    have : ¬ (0 < sD x ∧ ¬ (sN x * sD y = sN y * sD x)) := by simpa using h
    rw [ex1, ex2, ey1, ey2] at this; exact this ⟨by omega, g2⟩
  clear h
  have hfin : cmpC x y = orI (cmpI y.a x.a) (cmpI x.b y.b) := by unfold cmpC; rw [if_neg h1, if_neg h2, if_neg h3]
  refine ex s4_ok 300 rfl (by simp [conj]) ?_
  refine run_cond rfl (fun h => ?_) (fun h => ?_)
  · have h4 : x.a ≠ y.a := by simpa using h
    refine ex s4_ok 300 rfl (by simp [conj]) ?_
    refine fin rfl (by simp [conj]) rfl ?_
    have : cmpI y.a x.a ≠ 0 := by rw [Ne, cmpI_zero]; omega
    rw [hfin]; unfold orI; rw [if_neg this]; simp only [cmpI_neg]
  · have h4 : x.a = y.a := by simpa using h
    refine ex s4_ok 300 rfl (by simp [conj]) ?_
    refine fin rfl (by simp [conj]) rfl ?_
    have : cmpI y.a x.a = 0 := by rw [cmpI_zero]; omega
    rw [hfin]; unfold orI; rw [if_pos this]; simp only [cmpI_neg]
theorem cmpI_anti (a b : Int) : cmpI b a = - cmpI a b := by unfold cmpI; (repeat' split) <;> omega
theorem cmpI_vals (a b : Int) : cmpI a b = -1 ∨ cmpI a b = 0 ∨ cmpI a b = 1 := by unfold cmpI; split <;> (try split) <;> simp
theorem cmpC_vals (x y : Cd) : cmpC x y = -1 ∨ cmpC x y = 0 ∨ cmpC x y = 1 := by
  unfold cmpC
  split
  · simp
  split
  · simp
  split
  · exact cmpI_vals _ _
  unfold orI
  split
  · exact cmpI_vals _ _
  · exact cmpI_vals _ _
theorem orI_neg (a b : Int) : orI (-a) (-b) = - orI a b := by unfold orI; by_cases h : a = 0 <;> simp [h]
theorem cmpC_anti (x y : Cd) : cmpC y x = - cmpC x y := by
  have hc : orI (cmpI x.a y.a) (cmpI y.b x.b) = - orI (cmpI y.a x.a) (cmpI x.b y.b) := by rw [cmpI_anti y.a x.a, cmpI_anti x.b y.b, orI_neg]
  unfold cmpC
  rw [hc]
  by_cases a1 : scD x.v = 0 <;> by_cases a2 : scD y.v = 0
  · simp [a1, a2]
  · simp [a1, a2]
  · simp [a1, a2]
  · by_cases a3 : scN x.v x.p x.a * scD y.v = scN y.v y.p y.a * scD x.v
    · simp [a1, a2, a3]
    · have a4 : ¬ scN y.v y.p y.a * scD x.v = scN x.v x.p x.a * scD y.v := fun e => a3 e.symm
      simp [a1, a2, a3, a4]; exact cmpI_anti _ _
def F21 : List SV → Option (List Prop × SV)
  | [.agg [.int .i64 b, .int .i64 v, .int .i64 p, .int .i64 a], .agg [.int .i64 b', .int .i64 v', .int .i64 p', .int .i64 a']] =>
    some ([(⟨b, v, p, a⟩ : Cd).ok = true ∧ (⟨b', v', p', a'⟩ : Cd).ok = true ∧ (⟨b, v, p, a⟩ : Cd).use = true ∧ (⟨b', v', p', a'⟩ : Cd).use = true], .sb (decide (cmpC ⟨b, v, p, a⟩ ⟨b', v', p', a'⟩ < 0)))
  | _ => none
theorem F21_ok : PureOk Try.prog 21 F21 := by
  intro xs cs r h hc
  unfold F21 at h
  split at h <;> first | exact (none_ne h).elim | skip
  simp only [Option.some.injEq, Prod.mk.injEq] at h; obtain ⟨rfl, rfl⟩ := h
  obtain ⟨h1, h2, h3, h4⟩ := hc.head
  exact ⟨rfl, Pref_pure ⟨_, _, _, _⟩ ⟨_, _, _, _⟩ h1 h2 h3 h4⟩
def s5 : SumL := (21, F21) :: s4
theorem s5_ok : SumOk Try.prog (sumOf s5) := sumOk_cons F21_ok s4_ok
theorem rCompare_pure (x y : Cd) : Pure Try.prog 16 [x.sv, y.sv] (.int .i64 (if x.ok ∧ y.ok ∧ x.use ∧ y.use then cmpC x y else 0)) := by
  refine pure_of_run Try.func16 rfl (fun w => ?_)
  refine ex s5_ok 300 rfl (by simp [conj]) ?_
  refine run_cond rfl (fun h => ?_) (fun h => ?_)
  · refine ex s5_ok 300 rfl (by simp [conj]) ?_
    refine fin rfl (by simp [conj]) rfl ?_
    rw [if_neg]
    rintro ⟨g1, g2, g3, g4⟩
    simp only [Cd.ok, Cd.use] at g1 g2 g3 g4 h
    rw [g1, g2, g3, g4] at h; simp at h
  have hh : x.ok = true ∧ y.ok = true ∧ x.use = true ∧ y.use = true := by
    revert h
    show _ → (x.ok = true ∧ y.ok = true ∧ x.use = true ∧ y.use = true)
    simp only [Cd.ok, Cd.use]
    cases rightB x.v x.p x.a <;> cases rightB y.v y.p y.a <;> cases decide (x.v < x.p) <;> cases decide (y.v < y.p) <;> simp
  rw [if_pos hh]
  refine ex s5_ok 300 rfl (by simp only [conj, and_true, true_and]; exact hh) ?_
  refine run_cond rfl (fun h => ?_) (fun h => ?_)
  · have h : cmpC x y < 0 := by simpa using h
    refine ex s5_ok 300 rfl (by simp [conj]) ?_
    refine fin rfl (by simp [conj]) rfl ?_
    rcases cmpC_vals x y with g | g | g <;> simp [g] at h ⊢
  have h1 : ¬ cmpC x y < 0 := by simpa using h
  clear h
  refine ex s5_ok 300 rfl (by simp only [conj, and_true, true_and]; exact ⟨hh.2.1, hh.1, hh.2.2.2, hh.2.2.1⟩) ?_
  refine run_cond rfl (fun h => ?_) (fun h => ?_)
  · have h : cmpC y x < 0 := by simpa using h
    rw [cmpC_anti] at h
    refine ex s5_ok 300 rfl (by simp [conj]) ?_
    refine fin rfl (by simp [conj]) rfl ?_
    rcases cmpC_vals x y with g | g | g <;> simp [g] at h h1 ⊢
  · have h : ¬ cmpC y x < 0 := by simpa using h
    rw [cmpC_anti] at h
    refine ex s5_ok 300 rfl (by simp [conj]) ?_
    refine fin rfl (by simp [conj]) rfl ?_
    rcases cmpC_vals x y with g | g | g <;> simp [g] at h h1 ⊢
def F16 := F15
theorem F16_ok : PureOk Try.prog 16 F15 := by
  intro xs cs r h hc
  unfold F15 at h
  split at h <;> first | exact (none_ne h).elim | skip
  simp only [Option.some.injEq, Prod.mk.injEq] at h; obtain ⟨rfl, rfl⟩ := h
  exact ⟨rfl, rCompare_pure ⟨_, _, _, _⟩ ⟨_, _, _, _⟩⟩
def s6 : SumL := (16, F15) :: s5
theorem s6_ok : SumOk Try.prog (sumOf s6) := sumOk_cons F16_ok s5_ok
end Sx
