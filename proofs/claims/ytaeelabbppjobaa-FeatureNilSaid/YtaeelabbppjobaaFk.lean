/- The reference's New and Get. Conditions: as each theorem says. -/
import Derived.Test.YtaeelabbppjobaaFj
import Derived.Test.YtaeelabbppjobaaEngX4
set_option linter.unusedSimpArgs false
set_option linter.unusedVariables false
namespace Sx
open Go Go.Proofs
set_option maxRecDepth 100000
theorem refnew_hc (q s : Int) (h : 1 ≤ q ∧ q ≤ 65535) : HC Try.prog 11 [.agg [i64 q, i64 s]] [] [] 0 (fun _ : Unit => True) (fun _ => ⟨refV q s (fNew q), [], 0⟩) := by
  refine hc_of_run Try.func11 rfl (fun B hB hpin => ?_)
  refine goK hB s2_ok rfl rfl (by simp [conj]) ?_
  refine run_callC (refreset_hc q s h fZero) named hB [] rfl rfl rfl rfl (by simp [conj]) (by simp [conj, less_rfl, fZero]) ?_
  rintro ⟨⟩ _
  refine ⟨show 0 ≤ 0 by omega, _, _, _, rfl, rfl, rfl, ?_⟩
  refine goK hB s2_ok rfl rfl (by simp [conj]) ?_
  exact run_retC hpin () trivial [] rfl rfl (by simp [conj]) rfl (by simp [conj, less_rfl, fNew])
def codeOf (t c : Int) : Int := 256 * t + c
abbrev refGot (q : Int) (x : FSt) (id sel : Int) : SV := .tup [u32 (x.get q id sel).r, i64 (codeOf (x.get q id sel).t (x.get q id sel).c)]
theorem idx_neg {a : Int} (h : isId a = false) : idxOf a < 0 := by simpa [isId] using h
theorem refget_hc (q s : Int) (h : 1 ≤ q ∧ q ≤ 65535) (x : FSt) (id sel : Int) :
    HC Try.prog 14 [refV q s x, u8 id, i64 sel] [] [] 0 (fun _ : Unit => True) (fun _ => ⟨refGot q x id sel, [], 0⟩) := by
  refine hc_of_run Try.func14 rfl (fun B hB hpin => ?_)
  refine goK hB s2_ok rfl rfl (by simp [conj]) ?_
  refine run_cond rfl (fun h0 => ?_) (fun h0 => ?_)
  · refine goK hB s2_ok rfl rfl (by simp [conj]) ?_
    exact run_retC hpin () trivial [] rfl rfl (by simp [conj]) rfl (by
      have e : x.get q id sel = ⟨0, 0, 2⟩ := by
        unfold FSt.get
        cases hid : isId id with
        | false => rfl
        | true =>
          have : 0 ≤ idxOf id := by simpa [isId] using hid
          simp at h0
          have h1 : sel ≠ 0 := by omega
          have h2 : sel ≠ 1 := by omega
          have h3 : sel ≠ 2 := by omega
          have h4 : sel ≠ 3 := by omega
          simp [h1, h2, h3, h4]
      simp [conj, less_rfl, e, codeOf])
  have hid : isId id = true := by
    simp at h0
    simp [isId]; omega
  have hs : sel = 0 ∨ sel = 1 ∨ sel = 2 ∨ sel = 3 := by simp at h0; omega
  clear h0
  have hbd := base_dfl h
  rcases isId_cases hid with e | e | e | e | e | e | e | e | e | e | e | e
  all_goals
    subst e
    rcases hs with e | e | e | e
    · subst e
      refine goK hB s2_ok rfl rfl (by simp [conj]) ?_
      refine run_condT rfl rfl ?_
      refine goK hB s2_ok rfl rfl (by simp [conj, Fits_i64, idxOf]) ?_
      exact run_retC hpin () trivial [] rfl rfl (by simp [conj]) rfl (by simp [conj, less_rfl, FSt.get, hid, codeOf])
    · subst e
      refine goK hB s2_ok rfl rfl (by simp [conj]) ?_
      refine run_condF rfl rfl ?_
      refine goK hB s2_ok rfl rfl (by simp [conj]) ?_
      refine run_condT rfl rfl ?_
      refine goK hB s2_ok rfl rfl (by simp [conj, h]) ?_
      exact run_retC hpin () trivial [] rfl rfl (by simp [conj]) rfl (by simp [conj, less_rfl, FSt.get, hid, codeOf, dfl, ← hbd, baseOf, idxOf])
    · subst e
      refine goK hB s2_ok rfl rfl (by simp [conj]) ?_
      refine run_condF rfl rfl ?_
      refine goK hB s2_ok rfl rfl (by simp [conj]) ?_
      refine run_condF rfl rfl ?_
      refine goK hB s2_ok rfl rfl (by simp [conj]) ?_
      refine run_condT rfl rfl ?_
      refine goK hB s2_ok rfl rfl (by simp [conj, idxOf]) ?_
      refine run_cond rfl (fun h3 => ?_) (fun h3 => ?_)
      · refine goK hB s2_ok rfl rfl (by simp [conj, idxOf]) ?_
        exact run_retC hpin () trivial [] rfl rfl (by simp [conj]) rfl (by simp [conj, less_rfl, FSt.get, hid, codeOf, h3])
      · refine goK hB s2_ok rfl rfl (by simp [conj, h]) ?_
        exact run_retC hpin () trivial [] rfl rfl (by simp [conj]) rfl (by simp [conj, less_rfl, FSt.get, hid, codeOf, h3, dfl, ← hbd, baseOf, idxOf])
    · subst e
      refine goK hB s2_ok rfl rfl (by simp [conj]) ?_
      refine run_condF rfl rfl ?_
      refine goK hB s2_ok rfl rfl (by simp [conj]) ?_
      refine run_condF rfl rfl ?_
      refine goK hB s2_ok rfl rfl (by simp [conj]) ?_
      refine run_condF rfl rfl ?_
      refine goK hB s2_ok rfl rfl (by simp [conj]) ?_
      first
        | (refine run_condT rfl rfl ?_
           refine goK hB s2_ok rfl rfl (by simp [conj]) ?_
           exact run_retC hpin () trivial [] rfl rfl (by simp [conj]) rfl (by simp [conj, less_rfl, FSt.get, hid, codeOf, savOf, idxOf]))
        | (refine run_condF rfl rfl ?_
           refine goK hB s2_ok rfl rfl (by simp [conj]) ?_
           exact run_retC hpin () trivial [] rfl rfl (by simp [conj]) rfl (by simp [conj, less_rfl, FSt.get, hid, codeOf, savOf, idxOf]))
end Sx
