/- Chapter 47's reference: apply. Conditions: as each theorem says. -/
import Derived.Test.YtdjckiilfplnfaaJp
set_option linter.unusedSimpArgs false
set_option linter.unusedVariables false
namespace Sx
open Go Go.Proofs
set_option maxRecDepth 100000
set_option pp.deepTerms true
set_option pp.maxSteps 10000000
/-- A part as the reference holds it. -/
def partL (o : HO) (V : Value) (T : PT) (C U : Value) : List SV := [i64 o.k, i64 o.f, .val V, i64 o.b, i64 o.e, .sb o.fo, .sb T.du, .val C, .val U]
def crow (T : PT) : Nat → Nat → SV := fun k _ => .sb (decide (T.f.toNat ≤ k ∧ k < T.f.toNat + T.n))
def wrow (T : PT) : Nat → Int := fun k => if T.f.toNat ≤ k ∧ k < T.f.toNat + T.n then T.v (k - T.f.toNat) else 0
def apG (T : PT) (l : List Int) (i : Nat) : Nat → Int := fun k => if k < i ∧ T.f.toNat ≤ k ∧ k < T.f.toNat + T.n then T.v (k - T.f.toNat) else l.getD k 0
end Sx
