/- Chapter 47's reference: Most. Conditions: as each theorem says. -/
import Derived.Test.YtdjckiilfplnfaaJxb
import Derived.Test.YtdjckiilfplnfaaEngX5
set_option linter.unusedSimpArgs false
set_option linter.unusedVariables false
namespace Sx
open Go Go.Proofs
set_option maxRecDepth 100000
set_option pp.deepTerms true
set_option pp.maxSteps 10000000
/-- The greatest number of parts of a unit in the first epochs. -/
def mxE (H : Hi) (u : Int) : Nat → Nat
  | 0 => 0
  | e + 1 => max (mxE H u e) (lenE H u e)
end Sx
