/- The reference of chapter 27: Create. Conditions: as each theorem says. -/
import Derived.Test.YtcfifbpkngplmaaXx
set_option linter.unusedSimpArgs false
set_option linter.unusedVariables false
namespace Sx
open Go Go.Proofs
set_option maxRecDepth 100000
set_option pp.deepTerms true
set_option pp.maxSteps 10000000
/-- What the reference's Create refuses. -/
def CrS (r : RS) (un tot id c no : Int) : Prop := ((id < 1 ∨ 1024 < id ∨ c < 1 ∨ un * tot < c) ∧ no = 2) ∨ (1 ≤ id ∧ id ≤ 1024 ∧ 1 ≤ c ∧ c ≤ un * tot ∧ no = 11 ∧ ∃ k : Nat, k < r.m ∧ r.I k = id ∧ ∀ j, j < k → r.I j ≠ id)
/-- The reference with a new namespace at k. -/
def insR (r : RS) (k : Nat) (id c : Int) (p : Nat) : RS := ⟨r.m + 1, fun j => if j < k then r.I j else if j = k then id else r.I (j - 1), fun j => if j < k then r.Z j else if j = k then c else r.Z (j - 1), fun j => if j < k then r.N j else if j = k then p else r.N (j - 1), fun j => if j < k then r.U j else if j = k then (fun _ => (-1)) else r.U (j - 1)⟩
def insW (W : Nat → Value) (k : Nat) (w : Value) : Nat → Value := fun j => if j < k then W j else if j = k then w else W (j - 1)
end Sx
