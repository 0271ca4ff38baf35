/- JudgeApart: its walk. Conditions: as each theorem says. Printed by gen_jzd.py. -/
import Derived.Test.YtdjckiilfplnfaaJza
import Derived.Test.YtdjckiilfplnfaaJzq
set_option linter.unusedSimpArgs false
set_option linter.unusedVariables false
namespace Sx
open Go Go.Proofs
set_option maxRecDepth 100000
set_option pp.deepTerms true
set_option pp.maxSteps 10000000
/-- What JudgeApart keeps. -/
def kpU (H : Hi) (u : Int) (i : Nat) : Bool := decide ((H.op i).k = 2) || (decide ((H.op i).f < (u + 1) * H.unit) && decide (u * H.unit < (H.op i).f + (H.op i).n))
def orowS (H : Hi) (V : Nat → Value) (L : List Nat) : Nat → Nat → SV := fun j k => orow H V (L.getD j 0) k
theorem ren_orowS (nx : Nat) (sg : List Nat) (H : Hi) (V : Nat → Value) (L : List Nat) (i k : Nat) : ren nx sg (orowS H V L i k) = orowS H V L i k := ren_orow nx sg H V _ k
theorem renR_orowS (nx : Nat) (sg : List Nat) (H : Hi) (V : Nat → Value) (L : List Nat) : renR nx sg (orowS H V L) = orowS H V L := by funext i k; exact ren_orowS nx sg H V L i k
end Sx
