/- Chapter 47's reference: Parts. Conditions: as each theorem says. -/
import Derived.Test.YtdjckiilfplnfaaJxa
import Derived.Test.YtdjckiilfplnfaaJv
set_option linter.unusedSimpArgs false
set_option linter.unusedVariables false
namespace Sx
open Go Go.Proofs
set_option maxRecDepth 100000
set_option pp.deepTerms true
set_option pp.maxSteps 10000000
/-- The reference's parts, as they lie. -/
def rprow (H : Hi) (L : List Nat) (T : Nat → PT) (V C U : Nat → Value) : Nat → Nat → SV := fun q k => match k with
  | 0 => i64 (H.op (L.getD q 0)).k
  | 1 => i64 (H.op (L.getD q 0)).f
  | 2 => .val (V (L.getD q 0))
  | 3 => i64 (H.op (L.getD q 0)).b
  | 4 => i64 (H.op (L.getD q 0)).e
  | 5 => .sb (H.op (L.getD q 0)).fo
  | 6 => .sb (T q).du
  | 7 => .val (C q)
  | _ => .val (U q)
def crowK (T : PT) (k : Nat) : Nat → Nat → SV := fun q _ => .sb (decide (q < k ∧ T.f.toNat ≤ q ∧ q < T.f.toNat + T.n))
def wrowK (T : PT) (k : Nat) : Nat → Int := fun q => if q < k ∧ T.f.toNat ≤ q ∧ q < T.f.toNat + T.n then T.v (q - T.f.toNat) else 0
end Sx
