/- What ReserveNone computes: true. Conditions: as each theorem says. -/
import Derived.Test.YtmnlmghchegjaaaRc
set_option linter.unusedSimpArgs false
set_option linter.unusedVariables false
namespace Sx
open Go Go.Proofs
set_option maxRecDepth 100000
def FWorks : List SV → Option (List Prop × SV)
  | [] => some ([], .tt)
  | _ => none
theorem FWorks_ok : PureOk Try.prog 8 FWorks := by
  intro xs cs r h hc
  unfold FWorks at h
  split at h <;> first | exact (none_ne h).elim | skip
  simp only [Option.some.injEq, Prod.mk.injEq] at h; obtain ⟨rfl, rfl⟩ := h
  exact ⟨rfl, works_pure⟩
def sW : SumL := [(8, FWorks)]
theorem sW_ok : SumOk Try.prog (sumOf sW) := sumOk_cons FWorks_ok (sumOk_nil _)
theorem goV {B : Base} (hB : B.ok) {ro : Hp} {f : FuncId} {R : Ending → World → Prop} (S : List (Nat × Nat)) (m : Nat) {cs : List Prop} {c c' : Cfg} (h : execY Try.prog (modeU sW) ro S m [] c = (cs, c')) (hc : conj cs)
    (hr : Run Try.prog ro B f R c') : Run Try.prog ro B f R c := run_goY mixed named hB sW_ok S m h hc hr
set_option maxHeartbeats 40000000 in
theorem none_hc (a0 a1 a2 a3 a4 a5 : Int) (p q z : Bool) : HC Try.prog 4 [.agg [i64 a0, i64 a1, i64 a2, u64 a3, u64 a4, u64 a5, .sb p, .sb q], .sb z] [] [] 0 (fun _ : Unit => True) (fun _ => ⟨.tt, [], 0⟩) := by
  cases p <;>
  · refine hc_of_run Try.func4 rfl (fun B hB hpin => ?_)
    refine goV hB [(4, 11)] 3000 rfl (by simp [conj]) ?_
    cases z with
    | false =>
      refine run_ff rfl ?_
      refine goV hB [] 3000 rfl (by simp [conj, Fits_i64, isBo4, isPt25, isMp44, isIf20, isFn54, kinds, rowEqK49] <;> decide +kernel) ?_
      refine run_range named hB rfl rfl (by simp [conj]) rfl rfl rfl rfl ?_
      intro D l'
      have hB1 : (B.pin2 19 D l').ok := Base.pin2_ok hB
      refine goV hB1 [] 3000 rfl (by simp [conj, Fits_i64, isBo4, isPt25, isMp44, isIf20, isFn54, kinds, rowEqK49, rowEqK82] <;> decide +kernel) ?_
      refine run_inR [] (.inl rfl) trivial rfl rfl (by simp [conj]) ?_
      refine run_endR 20 rfl rfl (by decide) rfl ?_
      refine goV hB1 [] 6000 rfl (by simp [conj, Fits_i64, isBo4, isPt25, isMp44, isIf20, isFn54, kinds, rowEqK49, rowEqK82] <;> decide +kernel) ?_
      refine run_retMC ((More.refl B).pin2 hpin (by omega)) hpin () trivial [19] [] (.inr ⟨_, rfl⟩) ⟨rfl, rfl, trivial⟩ rfl rfl rfl (by simp [conj]) rfl ?_
      simp [conj]
    | true =>
      refine run_tt rfl ?_
      refine goV hB [] 3000 rfl (by simp [conj, Fits_i64, isBo4, isPt25, isMp44, isIf20, isFn54, kinds, rowEqK49] <;> decide +kernel) ?_
      refine run_range named hB rfl rfl (by simp [conj]) rfl rfl rfl rfl ?_
      intro D l'
      have hB1 : (B.pin2 20 D l').ok := Base.pin2_ok hB
      refine goV hB1 [] 3000 rfl (by simp [conj, Fits_i64, isBo4, isPt25, isMp44, isIf20, isFn54, kinds, rowEqK49, rowEqK82] <;> decide +kernel) ?_
      refine run_inR [] (.inl rfl) trivial rfl rfl (by simp [conj]) ?_
      refine run_endR 21 rfl rfl (by decide) rfl ?_
      refine goV hB1 [] 6000 rfl (by simp [conj, Fits_i64, isBo4, isPt25, isMp44, isIf20, isFn54, kinds, rowEqK49, rowEqK82] <;> decide +kernel) ?_
      refine run_retMC ((More.refl B).pin2 hpin (by omega)) hpin () trivial [20] [] (.inr ⟨_, rfl⟩) ⟨rfl, rfl, trivial⟩ rfl rfl rfl (by simp [conj]) rfl ?_
      simp [conj]
end Sx
