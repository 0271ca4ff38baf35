/- Package judge: Finals, up to the sort. Conditions: as each theorem says. -/
import Derived.Test.YtdjckiilfplnfaaJn
set_option linter.unusedSimpArgs false
set_option linter.unusedVariables false
namespace Sx
open Go Go.Proofs
set_option maxRecDepth 100000
set_option pp.deepTerms true
set_option pp.maxSteps 10000000
theorem units_le {H : Hi} (hv : VHi H) : (nU H : Int) ≤ 4096 := by
  have h1 := hv.u1
  have h3 := hv.b2
  have hum := units_mul hv
  have := Int.mul_le_mul_of_nonneg_left h1 (Int.natCast_nonneg (nU H))
  omega
end Sx
