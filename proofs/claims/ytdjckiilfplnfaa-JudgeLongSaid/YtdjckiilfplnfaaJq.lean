/- Package judge: compare. Conditions: as each theorem says. -/
import Derived.Test.YtdjckiilfplnfaaJf
set_option linter.unusedSimpArgs false
set_option linter.unusedVariables false
namespace Sx
open Go Go.Proofs
set_option maxRecDepth 100000
set_option pp.deepTerms true
set_option pp.maxSteps 10000000
/-- cmp.Compare of numbers. -/
def cmpI (a b : Int) : Int := if a < b then -1 else if b < a then 1 else 0
/-- The first difference of two rows below n, from the i-th on. -/
def cmpR (f g : Nat → Int) (n : Nat) : Nat → Int
  | 0 => 0
  | k + 1 => if f (n - (k + 1)) = g (n - (k + 1)) then cmpR f g n k else cmpI (f (n - (k + 1))) (g (n - (k + 1)))
end Sx
