/- The reference's Set. Conditions: as the theorem says. -/
import Derived.Test.YtaeelabbppjobaaFk
set_option linter.unusedSimpArgs false
set_option linter.unusedVariables false
namespace Sx
open Go Go.Proofs
set_option maxRecDepth 100000
abbrev refSetV (q s : Int) (R : SR) : SV := .tup [refV q s R.x, u32 R.r, i64 (codeOf R.t R.c)]
theorem most_eq {q : Int} (h : 1 ≤ q ∧ q ≤ 65535) : IntKind.u32.wrap (q - 1) = q - 1 := by
  simp [IntKind.wrap, IntKind.signed, IntKind.bits]
  omega
theorem w7_wrap {q v : Int} (h : 1 ≤ q ∧ q ≤ 65535) (hv : 0 ≤ v ∧ v < 4294967296) : IntKind.u32.wrap (min (v % 65536) (IntKind.u32.wrap (q - 1)) + IntKind.u32.wrap (65536 * min (v / 65536) (IntKind.u32.wrap (q - 1)))) = w7 q v := by
  rw [most_eq h]
  unfold w7
  generalize hx : min (v % 65536) (q - 1) = x
  generalize hy : min (v / 65536) (q - 1) = y
  simp [IntKind.wrap, IntKind.signed, IntKind.bits]
  omega
set_option maxHeartbeats 4000000 in
theorem refset_hc (q s : Int) (h : 1 ≤ q ∧ q ≤ 65535) (x : FSt) (id v : Int) (hv : 0 ≤ v ∧ v < 4294967296) (save : Bool) :
    HC Try.prog 26 [refV q s x, u8 id, u32 v, .sb save] [] [] 0 (fun _ : Unit => True) (fun _ => ⟨refSetV q s (x.set q s id v save), [], 0⟩) := by
  refine hc_of_run Try.func26 rfl (fun B hB hpin => ?_)
  refine goK hB s2_ok rfl rfl (by simp [conj]) ?_
  cases hid : isId id with
  | false =>
    refine run_condT rfl (by simpa using idx_neg hid) ?_
    refine goK hB s2_ok rfl rfl (by simp [conj]) ?_
    rw [set_id hid]
    exact run_retC hpin () trivial [] rfl rfl (by simp [conj]) rfl (by simp [conj, less_rfl, codeOf])
  | true =>
    have hm := most_eq h
    rcases isId_cases hid with e | e | e | e | e | e | e | e | e | e | e | e
    all_goals
      subst e
      refine run_condF rfl rfl ?_
      refine goK hB s2_ok rfl rfl (by simp [conj]) ?_
      cases save
      · refine run_condF rfl rfl ?_
        refine goK hB s2_ok rfl rfl (by simp [conj, hv]) ?_
        refine run_cond rfl (fun h1 => ?_) (fun h1 => ?_)
        · refine goK hB s2_ok rfl rfl (by simp [conj]) ?_
          rw [set_no hid rfl rfl h1]
          exact run_retC hpin () trivial [] rfl rfl (by simp [conj]) rfl (by simp [conj, less_rfl, codeOf])
        · refine goK hB s2_ok rfl rfl (by simp [conj]) ?_
          rw [set_ok hid rfl rfl h1]
          clear h1
          first
            | (refine run_condF rfl rfl ?_
               refine goK hB s2_ok rfl rfl (by simp [conj, idxOf]) ?_
               refine run_condF rfl rfl ?_
               refine goK hB s2_ok rfl rfl (by simp [conj]) ?_
               exact run_retC hpin () trivial [] rfl rfl (by simp [conj]) rfl (by simp [conj, less_rfl, codeOf, FSt.put, wOf, ieq]))
            | (refine run_condT rfl rfl ?_
               refine goK hB s2_ok rfl rfl (by simp [conj, Fits_i64, Fits_u32, idxOf]; omega) ?_
               refine run_condF rfl rfl ?_
               refine goK hB s2_ok rfl rfl (by simp [conj]) ?_
               exact run_retC hpin () trivial [] rfl rfl (by simp [conj]) rfl (by simp [conj, less_rfl, codeOf, FSt.put, wOf, ieq, ← w7_wrap h hv]))
      · first
          | (refine run_condT rfl rfl ?_
             refine goK hB s2_ok rfl rfl (by simp [conj]) ?_
             rw [set_ns hid rfl]
             exact run_retC hpin () trivial [] rfl rfl (by simp [conj]) rfl (by simp [conj, less_rfl, codeOf]))
          | (refine run_condF rfl rfl ?_
             refine goK hB s2_ok rfl rfl (by simp [conj, hv]) ?_
             refine run_cond rfl (fun h1 => ?_) (fun h1 => ?_)
             · refine goK hB s2_ok rfl rfl (by simp [conj]) ?_
               rw [set_no hid rfl rfl h1]
               exact run_retC hpin () trivial [] rfl rfl (by simp [conj]) rfl (by simp [conj, less_rfl, codeOf])
             · refine goK hB s2_ok rfl rfl (by simp [conj]) ?_
               rw [set_ok hid rfl rfl h1]
               clear h1
               refine run_condF rfl rfl ?_
               refine goK hB s2_ok rfl rfl (by simp [conj, idxOf]) ?_
               refine run_condT rfl rfl ?_
               refine goK hB s2_ok rfl rfl (by simp [conj, idxOf]) ?_
               exact run_retC hpin () trivial [] rfl rfl (by simp [conj]) rfl (by simp [conj, less_rfl, codeOf, FSt.put, wOf, ieq]))
end Sx
