/- Copy. Conditions: as the theorem says. -/
import Derived.Test.YtaeelabbppjobaaFh
set_option linter.unusedSimpArgs false
set_option linter.unusedVariables false
namespace Sx
open Go Go.Proofs
set_option maxRecDepth 100000
def objC (q s : Int) (x : FSt) : Hp := [(0, .cells [i64 q, i64 s, .mp 1, .mp 2, u64 x.host] 67), (1, .map .u8 isId (.ints .u32 x.vc)), (2, .map .u8 x.hs (.ints .u32 x.vs)),
  (3, .cells [i64 q, i64 s, .mp 4, .mp 5, u64 x.host] 67), (4, .map .u8 isId (.ints .u32 x.vc)), (5, .map .u8 x.hs (.ints .u32 x.vs))]
theorem copy_hc (q s : Int) (x : FSt) : HC Try.prog 20 [.ptr 0 0] (objH q s x) [] 3 (fun _ : Unit => True) (fun _ => ⟨.ptr 3 0, objC q s x, 6⟩) := by
  refine hc_of_run Try.func20 rfl (fun B hB hpin => ?_)
  refine goK hB s2_ok rfl rfl (by simp [conj, isPt25, isMp64]) ?_
  refine run_condF rfl rfl ?_
  refine goK hB s2_ok rfl rfl (by simp [conj]) ?_
  refine run_loop ?_
  refine goK hB s2_ok rfl rfl (by simp [conj]) ?_
  refine run_condT rfl (by decide) ?_
  refine goK hB s2_ok rfl rfl (by simp [conj]) ?_
  refine run_callC (clone_hc isId x.vc) named hB [1] rfl rfl rfl rfl (by simp [conj]) (by simp [conj, less_rfl]) ?_
  rintro ⟨⟩ _
  refine ⟨show 1 ≤ 2 by omega, _, _, _, rfl, rfl, rfl, ?_⟩
  refine goK hB s2_ok rfl rfl (by simp [conj, Fits_i64]) ?_
  refine run_back ?_
  refine goK hB s2_ok rfl rfl (by simp [conj]) ?_
  refine run_condT rfl (by decide) ?_
  refine goK hB s2_ok rfl rfl (by simp [conj]) ?_
  refine run_callC (clone_hc x.hs x.vs) named hB [2] rfl rfl rfl rfl (by simp [conj]) (by simp [conj, less_rfl]) ?_
  rintro ⟨⟩ _
  refine ⟨show 1 ≤ 2 by omega, _, _, _, rfl, rfl, rfl, ?_⟩
  refine goK hB s2_ok rfl rfl (by simp [conj, Fits_i64]) ?_
  refine run_back ?_
  refine goK hB s2_ok rfl rfl (by simp [conj]) ?_
  refine run_condF rfl (by decide) ?_
  refine goK hB s2_ok rfl rfl (by simp [conj]) ?_
  exact run_retC hpin () trivial [0, 1, 2, 3, 4, 5] rfl rfl (by simp [conj]) rfl (by simp [conj, less_rfl])
end Sx
