/- The reference of chapter 27: Delete. Conditions: as each theorem says. -/
import Derived.Test.YtcfifbpkngplmaaXy
set_option linter.unusedSimpArgs false
set_option linter.unusedVariables false
namespace Sx
open Go Go.Proofs
set_option maxRecDepth 100000
set_option pp.deepTerms true
set_option pp.maxSteps 10000000
/-- The units of a namespace, as the program keeps them. -/
def pU (r : RS) (k : Nat) : Nat → Int := fun q => r.U k q + 1
/-- The reference without a namespace. -/
def delR (r : RS) (k : Nat) : RS := ⟨r.m - 1, fun j => if j < k then r.I j else r.I (j + 1), fun j => if j < k then r.Z j else r.Z (j + 1), fun j => if j < k then r.N j else r.N (j + 1), fun j => if j < k then r.U j else r.U (j + 1)⟩
def delW (W : Nat → Value) (k : Nat) : Nat → Value := fun j => if j < k then W j else W (j + 1)
end Sx
