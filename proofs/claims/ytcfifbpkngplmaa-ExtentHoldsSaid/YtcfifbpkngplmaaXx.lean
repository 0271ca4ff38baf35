/- The reference of chapter 27: set. Conditions: as each theorem says. -/
import Derived.Test.YtcfifbpkngplmaaXw
import Derived.Test.YtcfifbpkngplmaaEngX5
set_option linter.unusedSimpArgs false
set_option linter.unusedVariables false
namespace Sx
open Go Go.Proofs
set_option maxRecDepth 100000
set_option pp.deepTerms true
set_option pp.maxSteps 10000000
/-- The units with another in one part. -/
def upU (f : Nat → Int) (q : Nat) (x : Int) : Nat → Int := fun k => if k = q then x else f k
def SetR (r : RS) (W : Nat → Value) (i q : Nat) (x : Int) (y : Value × Value) (K' : Kn) : Prop := Froz K' y.1 r.m 3 (rrow r (fun j => if j = i then y.2 else W j)) ∧ Froz K' y.2 (r.N i) 1 (urow (upU (r.U i) q x))
end Sx
