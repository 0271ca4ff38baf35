/- VictimScores: its call gives true. Conditions: none. -/
import Derived.Test.YtpjabkjacldgcaaVj
namespace Sx
open Go Go.Proofs
def F8 : List SV → Option (List Prop × SV)
  | [] => some ([], .tt)
  | _ => none
theorem F8_ok : PureOk Try.prog 8 F8 := by
  intro xs cs r h hc
  unfold F8 at h
  split at h <;> first | exact (none_ne h).elim | skip
  simp only [Option.some.injEq, Prod.mk.injEq] at h; obtain ⟨rfl, rfl⟩ := h
  exact ⟨rfl, works_pure⟩
def s10 : SumL := (8, F8) :: s6
theorem s10_ok : SumOk Try.prog (sumOf s10) := sumOk_cons F8_ok s6_ok
theorem scores_pure (x y : Cd) : Pure Try.prog 7 [x.sv, y.sv] .tt := by
  refine pure_of_run Try.func7 rfl (fun w => ?_)
  refine ex s10_ok 400 rfl (by simp [conj]) ?_
  refine run_draw0 mixed (fun t => ?_)
  refine run_draw (M := mode s10) 27 named (Base.all_ok w) s10_ok rfl rfl rfl rfl rfl (by simp [conj]) (fun t => ?_)
  refine run_drawE rfl ?_
  refine ex s10_ok 300 rfl (by simp [conj]) ?_
  exact fin_st rfl (by simp [conj]) (by simp)
end Sx
