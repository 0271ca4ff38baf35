/- Chapter 47's reference: Valid, its arms over the operations. Conditions: as each theorem says. -/
import Derived.Test.YtdjckiilfplnfaaJw
import Derived.Test.YtdjckiilfplnfaaEngX5
set_option linter.unusedSimpArgs false
set_option linter.unusedVariables false
namespace Sx
open Go Go.Proofs
set_option maxRecDepth 100000
set_option pp.deepTerms true
set_option pp.maxSteps 10000000
def rcER (H : Hi) (vo vc : Value) (t : Int) : RC := ⟨20, [hA H vo vc, i64 t], [], [], 0, i64 (ep H t), [], 0, []⟩
end Sx
