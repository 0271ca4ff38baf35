/- (*Features).Get, HostID, SetHostID, New, Copy. Conditions: as each theorem says. -/
import Derived.Test.YtaeelabbppjobaaFf
set_option linter.unusedSimpArgs false
set_option linter.unusedVariables false
namespace Sx
open Go Go.Proofs
set_option maxRecDepth 100000
structure GR where
  r : Int
  t : Int
  c : Int
def FSt.get (q : Int) (x : FSt) (id sel : Int) : GR :=
  bif !isId id then ⟨0, 0, 2⟩ else if sel = 0 then ⟨x.vc id, 0, 0⟩ else if sel = 1 then ⟨dfl q id, 0, 0⟩ else if sel = 2 then ⟨bif x.hs id then x.vs id else dfl q id, 0, 0⟩ else if sel = 3 then ⟨bif savOf (idxOf id) then 5 else 4, 0, 0⟩ else ⟨0, 0, 2⟩
theorem get_id {q : Int} {x : FSt} {id sel : Int} (h : isId id = false) : x.get q id sel = ⟨0, 0, 2⟩ := by simp [FSt.get, h]
set_option maxHeartbeats 4000000 in
theorem get_hc (q s : Int) (h : 1 ≤ q ∧ q ≤ 65535) (x : FSt) (id sel : Int) :
    HC Try.prog 13 [.ptr 0 0, u8 id, i64 sel] (objH q s x) [] 3 (fun _ : Unit => True) (fun _ => ⟨.tup [u32 (x.get q id sel).r, stV (x.get q id sel).t (x.get q id sel).c], objH q s x, 3⟩) := by
  refine hc_of_run Try.func13 rfl (fun B hB hpin => ?_)
  refine goK hB s2_ok rfl rfl (by simp [conj, isPt25, isMp64]) ?_
  refine run_condF rfl rfl ?_
  refine goK hB s2_ok rfl rfl (by simp [conj]) ?_
  refine run_callC (list_hc q s h) named hB [] rfl rfl rfl rfl (by simp [conj]) (by simp [conj, less_rfl]) ?_
  rintro ⟨⟩ _
  refine ⟨show 0 ≤ 13 by omega, _, _, _, rfl, rfl, rfl, ?_⟩
  cases hid : isId id with
  | false =>
    refine goS 0 hB s2_ok rfl rfl (by simp [conj]) ?_
    refine run_mnone rfl rfl rfl conj_nil rfl conj_nil rfl rfl rfl hid rfl ?_
    refine goK hB s2_ok rfl rfl (by simp [conj]) ?_
    refine run_condT rfl (by decide) ?_
    refine goK hB s2_ok rfl rfl (by simp [conj]) ?_
    rw [get_id hid]
    exact run_retC hpin () trivial [0, 1, 2] rfl rfl (by simp [conj]) rfl (by simp [conj, less_rfl])
  | true =>
    rcases isId_cases hid with e | e | e | e | e | e | e | e | e | e | e | e
    all_goals
      subst e
      refine goK hB s2_ok rfl rfl (by simp [conj]) ?_
      refine run_condF rfl rfl ?_
      refine goK hB s2_ok rfl rfl (by simp [conj]) ?_
      refine run_cond rfl (fun h0 => ?_) (fun h0 => ?_)
      · simp at h0
        subst h0
        refine goK hB s2_ok rfl rfl (by simp [conj]) ?_
        exact run_retC hpin () trivial [0, 1, 2] rfl rfl (by simp [conj]) rfl (by simp [conj, less_rfl, FSt.get, hid])
      simp at h0
      refine goK hB s2_ok rfl rfl (by simp [conj]) ?_
      refine run_cond rfl (fun h1 => ?_) (fun h1 => ?_)
      · simp at h1
        subst h1
        refine goK hB s2_ok rfl rfl (by simp [conj]) ?_
        exact run_retC hpin () trivial [0, 1, 2] rfl rfl (by simp [conj]) rfl (by simp [conj, less_rfl, FSt.get, hid, dfl])
      simp at h1
      refine goK hB s2_ok rfl rfl (by simp [conj]) ?_
      refine run_cond rfl (fun h2 => ?_) (fun h2 => ?_)
      · simp at h2
        subst h2
        refine goK hB s2_ok rfl rfl (by simp [conj]) ?_
        refine run_cond rfl (fun h3 => ?_) (fun h3 => ?_)
        · refine goK hB s2_ok rfl rfl (by simp [conj]) ?_
          exact run_retC hpin () trivial [0, 1, 2] rfl rfl (by simp [conj]) rfl (by simp [conj, less_rfl, FSt.get, hid, h3])
        · refine goK hB s2_ok rfl rfl (by simp [conj]) ?_
          exact run_retC hpin () trivial [0, 1, 2] rfl rfl (by simp [conj]) rfl (by simp [conj, less_rfl, FSt.get, hid, h3, dfl])
      simp at h2
      refine goK hB s2_ok rfl rfl (by simp [conj]) ?_
      refine run_cond rfl (fun h3 => ?_) (fun h3 => ?_)
      · simp at h3
        subst h3
        refine goK hB s2_ok rfl rfl (by simp [conj]) ?_
        exact run_retC hpin () trivial [0, 1, 2] rfl rfl (by simp [conj]) rfl (by simp [conj, less_rfl, FSt.get, hid, savOf, idxOf])
      simp at h3
      refine goK hB s2_ok rfl rfl (by simp [conj]) ?_
      exact run_retC hpin () trivial [0, 1, 2] rfl rfl (by simp [conj]) rfl (by simp [conj, less_rfl, FSt.get, hid, h0, h1, h2, h3])
end Sx
