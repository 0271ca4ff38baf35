/- HostID, SetHostID, New, Copy. Conditions: as each theorem says. -/
import Derived.Test.YtaeelabbppjobaaFg
set_option linter.unusedSimpArgs false
set_option linter.unusedVariables false
namespace Sx
open Go Go.Proofs
set_option maxRecDepth 100000
theorem host_hc (q s : Int) (x : FSt) : HC Try.prog 23 [.ptr 0 0] (objH q s x) [] 3 (fun _ : Unit => True) (fun _ => ⟨u64 x.host, objH q s x, 3⟩) := by
  refine hc_of_run Try.func23 rfl (fun B hB hpin => ?_)
  refine goK hB s2_ok rfl rfl (by simp [conj, isPt25, isMp64]) ?_
  refine run_condF rfl rfl ?_
  refine goK hB s2_ok rfl rfl (by simp [conj]) ?_
  exact run_retC hpin () trivial [0, 1, 2] rfl rfl (by simp [conj]) rfl (by simp [conj, less_rfl])
def FSt.setHost (x : FSt) (h : Int) : FSt := ⟨x.vc, x.hs, x.vs, if h = 0 then x.host else h⟩
theorem sethost_hc (q s : Int) (x : FSt) (w : Int) : HC Try.prog 24 [.ptr 0 0, u64 w] (objH q s x) [] 3 (fun _ : Unit => True) (fun _ => ⟨stV 0 (if w = 0 then 2 else 0), objH q s (x.setHost w), 3⟩) := by
  refine hc_of_run Try.func24 rfl (fun B hB hpin => ?_)
  refine goK hB s2_ok rfl rfl (by simp [conj, isPt25, isMp64]) ?_
  refine run_condF rfl rfl ?_
  refine goK hB s2_ok rfl rfl (by simp [conj]) ?_
  refine run_cond rfl (fun h0 => ?_) (fun h0 => ?_)
  · simp at h0
    refine goK hB s2_ok rfl rfl (by simp [conj]) ?_
    exact run_retC hpin () trivial [0, 1, 2] rfl rfl (by simp [conj]) rfl (by simp [conj, less_rfl, FSt.setHost, h0])
  · simp at h0
    refine goK hB s2_ok rfl rfl (by simp [conj]) ?_
    exact run_retC hpin () trivial [0, 1, 2] rfl rfl (by simp [conj]) rfl (by simp [conj, less_rfl, FSt.setHost, h0])
def fZero : FSt := ⟨fun _ => 0, fun _ => false, fun _ => 0, 0⟩
def fNew (q : Int) : FSt := fZero.reset q
theorem new_ok (q s : Int) (h : 1 ≤ q ∧ q ≤ 65535) (hs : 1 ≤ s ∧ s ≤ 32) : HC Try.prog 9 [.agg [i64 q, i64 s]] [] [] 0 (fun _ : Unit => True) (fun _ => ⟨.tup [.ptr 0 0, i64 0], objH q s (fNew q), 3⟩) := by
  refine hc_of_run Try.func9 rfl (fun B hB hpin => ?_)
  refine goK hB s2_ok rfl rfl (by simp [conj]) ?_
  refine run_condF rfl (by simp; omega) ?_
  refine goK hB s2_ok rfl rfl (by simp [conj]) ?_
  refine run_callC (reset_hc q s h (fun _ => false) fZero (fun a ha => by cases ha) (fun a ha => by cases ha)) named hB [3, 1, 2] rfl rfl rfl rfl (by simp [conj]) (by simp [conj, less_rfl, fZero]) ?_
  rintro ⟨⟩ _
  refine ⟨show 3 ≤ 3 by omega, _, _, _, rfl, rfl, rfl, ?_⟩
  refine goK hB s2_ok rfl rfl (by simp [conj]) ?_
  exact run_retC hpin () trivial [3, 1, 2] rfl rfl (by simp [conj]) rfl (by simp [conj, less_rfl, fNew])
theorem new_bad (q s : Int) (h : ¬ ((1 ≤ q ∧ q ≤ 65535) ∧ 1 ≤ s ∧ s ≤ 32)) : HC Try.prog 9 [.agg [i64 q, i64 s]] [] [] 0 (fun _ : Unit => True) (fun _ => ⟨.tup [.nil, i64 2], [], 0⟩) := by
  refine hc_of_run Try.func9 rfl (fun B hB hpin => ?_)
  refine goK hB s2_ok rfl rfl (by simp [conj]) ?_
  refine run_condT rfl (by simp; omega) ?_
  refine goK hB s2_ok rfl rfl (by simp [conj]) ?_
  exact run_retC hpin () trivial [] rfl rfl (by simp [conj]) rfl (by simp [conj, less_rfl])
theorem isClone : IsClone Try.prog 51 Try.f51 := ⟨Try.func51, rfl, rfl, by kernel_rfl, by kernel_rfl⟩
theorem clone_hc (h : Int → Bool) (v : Int → Int) : HC Try.prog 37 [.mp 0] [(0, .map .u8 h (.ints .u32 v))] [] 1 (fun _ : Unit => True) (fun _ => ⟨.mp 1, [(0, .map .u8 h (.ints .u32 v)), (1, .map .u8 h (.ints .u32 v))], 2⟩) := by
  refine hc_of_run Try.func37 rfl (fun B hB hpin => ?_)
  refine goK hB s2_ok rfl rfl (by simp [conj, isMp64]) ?_
  refine run_condF rfl rfl ?_
  refine goK hB s2_ok rfl rfl (by simp [conj]) ?_
  refine run_mclone hB isClone rfl rfl (by simp [conj]) rfl rfl ?_
  refine goK hB s2_ok rfl rfl (by simp [conj]) ?_
  exact run_retC hpin () trivial [0, 1] rfl rfl (by simp [conj]) rfl (by simp [conj, less_rfl])
end Sx
