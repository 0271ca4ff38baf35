/- The reference of chapter 27: count, owner, lowest, Free. Conditions: as each theorem says. -/
import Derived.Test.YtcfifbpkngplmaaXu
set_option linter.unusedSimpArgs false
set_option linter.unusedVariables false
namespace Sx
open Go Go.Proofs
set_option maxRecDepth 100000
set_option pp.deepTerms true
set_option pp.maxSteps 10000000
def cntR (f : Nat → Int) (n : Nat) : Nat := cntU (fun k => f k + 1) n
def OwnS (r : RS) (u : Int) : Prop := ∃ i, i < r.m ∧ ∃ k, k < r.N i ∧ r.U i k = u
/-- The lowest unit that is nobody's. -/
def LowS (r : RS) (tot x : Int) : Prop := (x = -1 ∧ ∀ y, 0 ≤ y → y < tot → OwnS r y) ∨ (0 ≤ x ∧ x < tot ∧ ¬ OwnS r x ∧ ∀ y, 0 ≤ y → y < x → OwnS r y)
/-- All units of the first namespaces. -/
def sumC (r : RS) : Nat → Int
  | 0 => 0
  | i + 1 => sumC r i + cntR (r.U i) (r.N i)
end Sx
