/- The reference's New, Configure, Remove. Conditions: as each theorem says. -/
import Derived.Test.YtkoeikjcnancdaaAm
set_option linter.unusedSimpArgs false
set_option linter.unusedVariables false
namespace Sx
open Go Go.Proofs
set_option maxRecDepth 100000
theorem refconf_pure (s : ASt) (Q : Ld) (cap : Nat) (w : Bool) (b hi me lo : Int) :
    HC Try.prog 39 [refV s 0 Q.length, cfgV w b hi me lo] [] (qH Q cap) 1 (fun _ : Unit => True) (fun _ => ⟨refV (s.conf w b hi me lo) 0 Q.length, [], 1⟩) := by
  refine hc_of_run Try.func39 rfl (fun B hB hpin => ?_)
  refine goK hB s2_ok rfl rfl (by simp [conj]) ?_
  exact run_retC hpin () trivial [0] rfl rfl (by simp [conj]) rfl (by simp [conj, less_rfl, ren_ldr, ASt.conf])
theorem refnew_hc (w : Bool) (b hi me lo : Int) : HC Try.prog 17 [cfgV w b hi me lo] [] [] 0 (fun _ : Unit => True) (fun _ => ⟨refV (aNew w b hi me lo) 0 0, [], 0⟩) := by
  refine hc_of_run Try.func17 rfl (fun B hB hpin => ?_)
  refine goK hB s2_ok rfl rfl (by simp [conj]) ?_
  exact run_retC hpin () trivial [] rfl rfl (by simp [conj]) rfl (by simp [conj, less_rfl, aNew])
theorem refrem_bad (s : ASt) (Q : Ld) (cap : Nat) (hlq : Q.length < 1000000) (hh : ∀ a, s.h a = hasQ Q a) (q : Int) (he : remE s q ≠ 0) :
    HC Try.prog 40 [refV s 0 Q.length, i64 q] [] (qH Q cap) 1 (fun _ : Unit => True) (fun _ => ⟨.tup [refV s 0 Q.length, i64 (remE s q)], [], 1⟩) := by
  refine hc_of_run Try.func40 rfl (fun B hB hpin => ?_)
  refine goK hB s2_ok rfl rfl (by simp [conj]) ?_
  refine run_cond rfl (fun h => ?_) (fun h => ?_)
  · have h : q < 0 ∨ 65535 < q := by simpa [or_assoc] using h
    refine goK hB s2_ok rfl rfl (by simp [conj]) ?_
    exact run_retC hpin () trivial [0] rfl rfl (by simp [conj]) rfl (by simp [conj, less_rfl, remE, h, ren_ldr])
  have h : ¬ (q < 0 ∨ 65535 < q) := by simp at h; omega
  refine goK hB s2_ok rfl rfl (by simp [conj]) ?_
  refine run_callC (at_hc s Q cap hlq q) named hB [0] rfl rfl rfl rfl (by simp [conj]) (by simp [conj, less_rfl, ren_ldr]) ?_
  rintro ⟨⟩ _
  refine ⟨show 1 ≤ 1 by omega, _, _, _, rfl, rfl, rfl, ?_⟩
  have hq : hasQ Q q = false := by
    rw [← hh]
    cases hb : s.h q with
    | false => rfl
    | true => simp [remE, h, hb] at he
  have hA : atF Q q = -1 := atF_none hq
  refine goK hB s2_ok rfl rfl (by simp [conj]) ?_
  refine run_condT rfl (by simp [hA]) ?_
  refine goK hB s2_ok rfl rfl (by simp [conj]) ?_
  exact run_retC hpin () trivial [0] rfl rfl (by simp [conj]) rfl (by simp [conj, less_rfl, remE, h, hh, hq, ren_ldr])
theorem sto_ldr (Q : Ld) (i k : Nat) (hk : k < 2) : storable (ldr Q i k) = true := by
  have : k = 0 ∨ k = 1 := by omega
  rcases this with rfl | rfl <;> rfl
theorem refrem_ok (s : ASt) (Q : Ld) (cap : Nat) (hlq : Q.length < 1000000) (q : Int) (h : ¬ (q < 0 ∨ 65535 < q)) (k : Nat) (hk : k < Q.length) (hA : atF Q q = k) :
    HC Try.prog 40 [refV s 0 Q.length, i64 q] [] (qH Q cap) 1 (fun _ : Unit => True) (fun _ => ⟨.tup [refV s 1 (Q.length - 1), i64 0], [(1, .row 0 (Q.length - 1) (Q.length - 1) 2 (ldr (Q.eraseIdx k)) 63)], 2⟩) := by
  refine hc_of_run Try.func40 rfl (fun B hB hpin => ?_)
  refine goK hB s2_ok rfl rfl (by simp [conj]) ?_
  refine run_condF rfl (by simp; omega) ?_
  refine goK hB s2_ok rfl rfl (by simp [conj]) ?_
  refine run_callC (at_hc s Q cap hlq q) named hB [0] rfl rfl rfl rfl (by simp [conj]) (by simp [conj, less_rfl, ren_ldr]) ?_
  rintro ⟨⟩ _
  refine ⟨show 1 ≤ 1 by omega, _, _, _, rfl, rfl, rfl, ?_⟩
  rw [hA]
  refine goK hB s2_ok rfl rfl (by simp [conj]) ?_
  refine run_condF rfl (by simp) ?_
  have e1 : (k : Int).toNat = k := by omega
  have e2 : ((k : Int) + 1).toNat = k + 1 := by omega
  refine goK hB s2_ok rfl rfl (by
    simp only [conj, e1, e2, Fits_i64]
    repeat' apply And.intro
    all_goals first
      | omega
      | trivial
      | exact fun i j _ hj => sto_ldr Q _ j hj) ?_
  have hn : 0 + k + (Q.length - (k + 1)) = Q.length - 1 := by omega
  refine run_retC hpin () trivial [0, 13] rfl rfl (by simp [conj]) rfl ?_
  simp only [e1, e2, hn]
  simp [conj, less_rfl, ren_ldr]
  intro j k' hj hk'
  refine Less.of ?_
  unfold appF
  by_cases q1 : j < k
  · have hb : Nat.blt j k = true := by simpa [Nat.blt_eq] using q1
    have hb0 : Nat.blt j 0 = false := by
      cases hq : Nat.blt j 0 with
      | false => rfl
      | true => rw [Nat.blt_eq] at hq; omega
    rw [hb, cond_true, hb0, cond_false]
    unfold ldr
    simp [List.getElem?_eraseIdx, q1]
  · have hb : Nat.blt j k = false := by
      cases hq : Nat.blt j k with
      | false => rfl
      | true => rw [Nat.blt_eq] at hq; omega
    rw [hb, cond_false]
    unfold ldr
    have e3 : k + 1 + (j - k) = j + 1 := by omega
    simp [List.getElem?_eraseIdx, q1, e3]
end Sx
