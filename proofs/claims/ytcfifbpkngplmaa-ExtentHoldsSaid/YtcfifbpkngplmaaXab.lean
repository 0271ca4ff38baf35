/- The reference of chapter 27: Drop. Conditions: as each theorem says. -/
import Derived.Test.YtcfifbpkngplmaaXaa
set_option linter.unusedSimpArgs false
set_option linter.unusedVariables false
namespace Sx
open Go Go.Proofs
set_option maxRecDepth 100000
set_option pp.deepTerms true
set_option pp.maxSteps 10000000
/-- What the reference's Drop refuses. -/
def DrS (r : RS) (id a c no : Int) : Prop := ((a < 0 ∨ c < 0) ∧ no = 2) ∨ (0 ≤ a ∧ 0 ≤ c ∧ no ≠ 0 ∧ ∃ i, KnS r id i no) ∨ (0 ≤ a ∧ 0 ≤ c ∧ no = 3 ∧ ∃ k : Nat, k < r.m ∧ KnS r id k 0 ∧ 0 ≤ r.Z k ∧ r.Z k ≤ 16777216 ∧ (r.Z k < a ∨ (a ≤ r.Z k ∧ r.Z k - a < c)))
/-- The reference with other units of a namespace. -/
def putR (r : RS) (k : Nat) (g : Nat → Int) : RS := ⟨r.m, r.I, r.Z, r.N, fun j => if j = k then g else r.U j⟩
/-- What remains of the parts, as the reference keeps them. -/
def rU (f : Nat → Int) (d : Nat → Bool) (i : Nat) : Nat → Int := fun q => dU f d i q - 1
end Sx
