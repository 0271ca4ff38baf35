/- What ExtentBounds computes: true. Conditions: as each theorem says. -/
import Derived.Test.YtcfifbpkngplmaaXa
set_option linter.unusedSimpArgs false
set_option linter.unusedVariables false
namespace Sx
open Go Go.Proofs
set_option maxRecDepth 100000
def FWorks : List SV → Option (List Prop × SV)
  | [] => some ([], .tt)
  | _ => none
theorem FWorks_ok : PureOk Try.prog 8 FWorks := by
  intro xs cs r h hc
  unfold FWorks at h
  split at h <;> first | exact (none_ne h).elim | skip
  simp only [Option.some.injEq, Prod.mk.injEq] at h; obtain ⟨rfl, rfl⟩ := h
  exact ⟨rfl, works_pure⟩
def sW : SumL := [(8, FWorks)]
theorem sW_ok : SumOk Try.prog (sumOf sW) := sumOk_cons FWorks_ok (sumOk_nil _)
abbrev most (u : Int) : Int := Int.tdiv 16777216 u * u
abbrev exC (T u : Int) : SO := .cells [.nilsl, i64 1, i64 T, i64 u, .und] 66
def rcF (T u : Int) (sg : List Nat) : RC := ⟨14, [.ptr 0 0], [], [(0, exC T u)], 1, i64 (T - 1), [], 1, sg⟩
end Sx
