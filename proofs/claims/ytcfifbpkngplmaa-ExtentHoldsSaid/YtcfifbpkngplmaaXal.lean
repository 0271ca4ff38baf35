/- The law's over: the namespaces in order. Conditions: as each theorem says. -/
import Derived.Test.YtcfifbpkngplmaaXak
set_option linter.unusedSimpArgs false
set_option linter.unusedVariables false
namespace Sx
open Go Go.Proofs
set_option maxRecDepth 100000
set_option pp.deepTerms true
set_option pp.maxSteps 10000000
theorem isFn43' : IsFn Try.prog 43 := ⟨_, _, _, Try.underlying43⟩
end Sx
