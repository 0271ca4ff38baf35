/- What the tops of chapter 47's laws share: a history that came in. Conditions: as each theorem says. -/
import Derived.Test.YtdjckiilfplnfaaRows
import Derived.Test.YtdjckiilfplnfaaJza
import Derived.Test.YtdjckiilfplnfaaEngX4
import Derived.WalkKit
import Derived.ProofKit
import Derived.OpenShut
import Derived.ChangeOld
import Derived.Below
import Derived.Lib.SmallJoins
import Derived.Laws.IdiomArrays
set_option linter.unusedSimpArgs false
set_option linter.unusedVariables false
namespace Go.Proofs.Ytdjckiilfplnfaa
open Go.ChangeShapes Go.WideShapes Go.ChangeAt Go.RowKit Go.Joins
theorem own' : ownKnob Try.prog.godebug = none := by kernel_rfl
theorem laidOut' : laidOutB Try.prog = true := by kernel_rfl
theorem wf_i64 {n : Int} (h : (Lit.int .i64 n).wf = true) : Sx.Fits .i64 n := by
  simp [Lit.wf, IntKind.min, IntKind.max, IntKind.signed, IntKind.bits] at h
  rw [Sx.Fits_i64]
  omega
end Go.Proofs.Ytdjckiilfplnfaa
