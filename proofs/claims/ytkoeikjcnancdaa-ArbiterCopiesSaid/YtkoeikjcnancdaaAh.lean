/- maps.DeleteFunc(waiting, func(_, n int) bool { return n == 0 }). Conditions: as the theorem says. -/
import Derived.Test.YtkoeikjcnancdaaAg
set_option linter.unusedSimpArgs false
set_option linter.unusedVariables false
namespace Sx
open Go Go.Proofs
set_option maxRecDepth 100000
def F27 : List SV → Option (List Prop × SV)
  | [.int .i64 _, .int .i64 n] => some ([], .sb (decide (n = 0)))
  | _ => none
theorem F27_ok : PureOk Try.prog 27 F27 := by
  intro xs cs r h hc
  unfold F27 at h
  split at h <;> first | exact (none_ne h).elim | skip
  simp only [Option.some.injEq, Prod.mk.injEq] at h; obtain ⟨rfl, rfl⟩ := h
  refine ⟨rfl, pure_of_run Try.func27 rfl (fun w => ?_)⟩
  refine ex0 rfl rfl (by simp [conj]) ?_
  exact fin rfl (by simp [conj]) rfl rfl
def s2 : SumL := (27, F27) :: s1
theorem s2_ok : SumOk Try.prog (sumOf s2) := sumOk_cons F27_ok s1_ok
def delH (h S : Int → Bool) (v : Int → Int) : Int → Bool := fun a => h a && !(S a && decide (v a = 0))
theorem delH_zero (h : Int → Bool) (v : Int → Int) : delH h (fun _ => false) v = h := by funext a; simp [delH]
theorem mdel_hc (h : Int → Bool) (v : Int → Int) : HC Try.prog 26 [.mp 0, .clo (.func 27) [] []] [(0, .map .i64 h (.ints .i64 v))] [] 1 (fun _ : Unit => True)
    (fun _ => ⟨.tup [], [(0, .map .i64 (fun a => h a && !decide (v a = 0)) (.ints .i64 v))], 1⟩) := by
  refine hc_of_run Try.func26 rfl (fun B hB hpin => ?_)
  refine goK hB s2_ok rfl rfl (by simp [conj]) ?_
  refine run_mrange hB rfl rfl rfl conj_nil rfl rfl (fun es clock hK => ⟨_, _, rfl, rfl, ?_⟩)
  refine goK hB s2_ok rfl rfl conj_nil ?_
  refine run_loop ?_
  refine run_inv (ι := Array MapEntry × Array Nat × (Int → Bool)) hpin (fun z => Keys .i64 (delH h z.2.2 v) z.1 clock ∧ SeenIs .i64 z.1 z.2.1 z.2.2 ∧ ∀ a, z.2.2 a = true → h a = true) (fun z => (leftOf z.1 z.2.1).size)
    (fun _ => [(0, .mp 0), (1, .clo (.func 27) [] []), (7, .ptr 1 0)]) (fun _ => []) (fun z => [(0, .mape .i64 (delH h z.2.2 v) (.ints .i64 v) z.1 clock), (1, .mit 0 clock z.2.1 clock)]) 2 (es, #[], fun _ => false)
    ⟨by simp only [delH_zero]; exact hK, seenIs_zero _ _, fun a ha => by cases ha⟩ [0, 1] rfl rfl (by simp [conj, less_rfl, delH]) ?_
  rintro ⟨es1, seen, S⟩ ⟨hK1, hS, hSi⟩ ih
  refine goK hB s2_ok rfl rfl conj_nil ?_
  refine run_mnext hK1 hS rfl rfl rfl conj_nil rfl rfl (fun hov => ⟨_, rfl, ?_⟩) (fun a seen' ha hSa hS' hL hlt => ⟨_, _, rfl, rfl, ?_⟩)
  · clear ih
    refine goK hB s2_ok rfl rfl (by simp [conj]) ?_
    refine run_endC hpin () trivial [0] rfl rfl (by simp [conj]) rfl ?_
    simp [conj, less_rfl]
    intro a
    have h1 := hov a
    have h2 := hSi a
    simp only [delH] at h1 h2 ⊢
    cases e1 : h a <;> cases e2 : S a <;> by_cases hv : v a = 0 <;> simp_all
  · refine goK hB s2_ok rfl rfl (by simp [conj]) ?_
    refine run_mentry hK1 hL rfl rfl rfl conj_nil rfl rfl rfl ?_
    refine goK hB s2_ok rfl rfl (by simp [conj]) ?_
    refine run_cond rfl (fun hv => ?_) (fun hv => ?_)
    · refine goK hB s2_ok rfl rfl (by simp [conj]) ?_
      refine run_mdelR rfl rfl (by simp [conj]) rfl (fun es2 hK2 hL2 => ⟨_, _, rfl, rfl, ?_⟩)
      refine goK hB s2_ok rfl rfl (by simp [conj]) ?_
      refine run_back ?_
      have hfin := ih (es2, seen', fun x => ieq x a || S x) ⟨by
        have e : delH h (fun x => ieq x a || S x) v = fun x => delH h S v x && !ieq x a := by
          funext x
          have hv : v a = 0 := by simpa using hv
          simp only [delH, ieq]
          by_cases q : x = a
          · subst q; simp [hv]
          · simp [q]
        simp only [e]; exact hK2, hL2.seen hS', fun y hy => by
          simp only [Bool.or_eq_true] at hy
          rcases hy with hy | hy
          · have : y = a := by simpa [ieq] using hy
            subst this
            have ha := ha
            simp only [delH, Bool.and_eq_true] at ha
            exact ha.1
          · exact hSi y hy⟩ (Nat.lt_of_le_of_lt (hL2.left seen') hlt)
      clear ih
      refine run_to hpin [0, 1] rfl rfl ?_ hfin
      clear hfin
      have hv : v a = 0 := by simpa using hv
      simp [conj, less_rfl]
      intro x
      simp only [delH, ieq]
      by_cases q : x = a
      · subst q; simp [hv]
      · simp [q]
    · refine goK hB s2_ok rfl rfl (by simp [conj]) ?_
      refine run_back ?_
      have hv : ¬ v a = 0 := by simpa using hv
      have e : delH h (fun x => ieq x a || S x) v = delH h S v := by
        funext x
        simp only [delH, ieq]
        by_cases q : x = a
        · subst q; simp [hv]
        · simp [q]
      have hfin := ih (es1, seen', fun x => ieq x a || S x) ⟨by simp only [e]; exact hK1, hS', fun y hy => by
          simp only [Bool.or_eq_true] at hy
          rcases hy with hy | hy
          · have : y = a := by simpa [ieq] using hy
            subst this
            have ha := ha
            simp only [delH, Bool.and_eq_true] at ha
            exact ha.1
          · exact hSi y hy⟩ hlt
      clear ih
      refine run_to hpin [0, 1] rfl rfl ?_ hfin
      clear hfin
      simp [conj, less_rfl, e]
end Sx
