/- slices.Insert at []int: what the kit's contract says, as a call over blocks. Conditions: as each theorem says. -/
import Derived.Test.YtcfifbpkngplmaaXa
import Derived.Shelf.Spec.SlicesInsert
import Derived.Shelf.Spec.SlicesInsertGrow
set_option linter.unusedSimpArgs false
set_option linter.unusedVariables false
namespace Go.Proofs
open Go.Shelf
def Try.lays76_ren : Go.Shelf.Ren := ⟨fun | 21 => 76 | 27 => 83 | 28 => 84 | 35 => 96 | 39 => 102 | n => n, fun | 22 => 41 | n => n, fun n => n⟩
theorem Try.lays76 : Go.Proofs.Lays2.n21 Try.prog Try.lays76_ren := {
  mixed := by kernel_rfl
  f21 := Try.func76.trans (congrArg some (by kernel_rfl))
  f27 := Try.func83.trans (congrArg some (by kernel_rfl))
  f28 := Try.func84.trans (congrArg some (by kernel_rfl))
  f35 := Try.func96.trans (congrArg some (by kernel_rfl))
  f39 := Try.func102.trans (congrArg some (by kernel_rfl))
  t0 := Try.underlying0
  a0 := Try.isAgg0
  z0 := Try.sizeOf0
  v0 := Try.zeroValue0
  t3 := Try.underlying3
  a3 := Try.isAgg3
  z3 := Try.sizeOf3
  v3 := Try.zeroValue3
  t4 := Try.underlying4
  a4 := Try.isAgg4
  z4 := Try.sizeOf4
  v4 := Try.zeroValue4
  t22 := Try.underlying41
  a22 := Try.isAgg41
  z22 := Try.sizeOf41
  v22 := Try.zeroValue41
  i3 := by kernel_rfl }
end Go.Proofs
