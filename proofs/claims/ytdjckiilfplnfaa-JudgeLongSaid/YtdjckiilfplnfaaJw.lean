/- Chapter 47's reference: Valid, its first arms. Conditions: as each theorem says. -/
import Derived.Test.YtdjckiilfplnfaaJv
import Derived.Test.YtdjckiilfplnfaaJd
set_option linter.unusedSimpArgs false
set_option linter.unusedVariables false
namespace Sx
open Go Go.Proofs
set_option maxRecDepth 100000
set_option pp.deepTerms true
set_option pp.maxSteps 10000000
/-- What Valid asks of the numbers. -/
def VHead (H : Hi) : Prop := 1 ≤ H.unit ∧ H.unit ≤ 8 ∧ 1 ≤ H.blocks ∧ H.blocks ≤ 4096 ∧ H.blocks % H.unit = 0
/-- What Valid asks of the cuts. -/
def VCut (H : Hi) (i : Nat) : Prop := 0 ≤ H.c i ∧ (0 < i → H.c (i - 1) < H.c i)
end Sx
