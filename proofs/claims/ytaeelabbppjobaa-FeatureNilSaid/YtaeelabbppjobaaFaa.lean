/- Supported: an iterator over a copy of the current values. Conditions: as the theorem says. -/
import Derived.Test.YtaeelabbppjobaaFz
import Derived.Test.YtaeelabbppjobaaEngX4
set_option linter.unusedSimpArgs false
set_option linter.unusedVariables false
namespace Sx
open Go Go.Proofs
set_option maxRecDepth 100000
theorem sup_hc (q s : Int) (x : FSt) : HC Try.prog 21 [.ptr 0 0] (objH q s x) [] 3 (fun _ : Unit => True) (fun _ => ⟨.clo (.func 38) [] [.ptr 3 0], objH q s x ++ [(3, .cells [.mp 4] 64), (4, .map .u8 isId (.ints .u32 x.vc))], 5⟩) := by
  refine hc_of_run Try.func21 rfl (fun B hB hpin => ?_)
  refine goT hB s5_ok rfl rfl (by simp [conj, isPt25, isMp64]) ?_
  refine run_condT rfl rfl ?_
  refine goT hB s5_ok rfl rfl (by simp [conj]) ?_
  refine run_callC (clone_hc isId x.vc) named hB [1] rfl rfl rfl rfl (by simp [conj]) (by simp [conj, less_rfl]) ?_
  rintro ⟨⟩ _
  refine ⟨show 1 ≤ 2 by omega, _, _, _, rfl, rfl, rfl, ?_⟩
  refine goT hB s5_ok rfl rfl (by simp [conj]) ?_
  exact run_retC hpin () trivial [0, 1, 2, 3, 4] rfl rfl (by simp [conj]) rfl (by simp [conj, less_rfl])
theorem isFn59 : IsFn Try.prog 59 := ⟨_, _, _, Try.underlying59⟩
end Sx
