/- Package extent: Copy. Conditions: as each theorem says. -/
import Derived.Test.YtcfifbpkngplmaaXq
set_option linter.unusedSimpArgs false
set_option linter.unusedVariables false
namespace Sx
open Go Go.Proofs
set_option maxRecDepth 100000
set_option pp.deepTerms true
set_option pp.maxSteps 10000000
theorem ieq_ne {a b : Int} (h : a ≠ b) : ieq a b = false := by simpa [ieq] using h
theorem iIns_self {α : Type} (f : Int → α) (a : Int) (y : α) : iIns f a y a = y := by simp [iIns, ieq]
theorem iIns_ne {α : Type} (f : Int → α) {a q : Int} (y : α) (h : q ≠ a) : iIns f a y q = f q := by simp [iIns, ieq, h]
end Sx
