/- Chapter 47's reference: Epoch. Conditions: as each theorem says. -/
import Derived.Test.YtdjckiilfplnfaaJc
set_option linter.unusedSimpArgs false
set_option linter.unusedVariables false
namespace Sx
open Go Go.Proofs
set_option maxRecDepth 100000
set_option pp.deepTerms true
set_option pp.maxSteps 10000000
end Sx
