/- What AnaNone computes: true. Conditions: as each theorem says. -/
import Derived.Test.YtlpbmlfejiaamaaNc
set_option linter.unusedSimpArgs false
set_option linter.unusedVariables false
namespace Sx
open Go Go.Proofs
set_option maxRecDepth 100000
def nameOk (n : Int) : Bool := decide (n ≠ 0) && decide (n ≠ 4294967295)
theorem name_pure (n : Int) : Pure Try.prog 37 [.int .u32 n] (.sb (nameOk n)) := by
  refine pure_of_run Try.func37 rfl (fun w' => ?_)
  refine goU (Base.all_ok _) (sumOk_nil _) rfl rfl (by simp [conj]) ?_
  exact fin rfl (by simp [conj]) rfl (by simp [nameOk])
def FName : List SV → Option (List Prop × SV)
  | [.int .u32 n] => some ([], .sb (nameOk n))
  | _ => none
theorem FName_ok : PureOk Try.prog 37 FName := by
  intro xs cs r h hc
  unfold FName at h
  split at h <;> first | exact (none_ne h).elim | skip
  simp only [Option.some.injEq, Prod.mk.injEq] at h; obtain ⟨rfl, rfl⟩ := h
  exact ⟨rfl, name_pure _⟩
def FWorks : List SV → Option (List Prop × SV)
  | [] => some ([], .tt)
  | _ => none
theorem FWorks_ok : PureOk Try.prog 9 FWorks := by
  intro xs cs r h hc
  unfold FWorks at h
  split at h <;> first | exact (none_ne h).elim | skip
  simp only [Option.some.injEq, Prod.mk.injEq] at h; obtain ⟨rfl, rfl⟩ := h
  exact ⟨rfl, works_pure⟩
def sW : SumL := [(9, FWorks), (37, FName)]
theorem sW_ok : SumOk Try.prog (sumOf sW) := sumOk_cons FWorks_ok (sumOk_cons FName_ok (sumOk_nil _))
theorem goW {B : Base} (hB : B.ok) {ro : Hp} {f : FuncId} {R : Ending → World → Prop} (S : List (Nat × Nat)) (m : Nat) {cs : List Prop} {c c' : Cfg} (h : execY Try.prog (modeU sW) ro S m [] c = (cs, c')) (hc : conj cs)
    (hr : Run Try.prog ro B f R c') : Run Try.prog ro B f R c := run_goY mixed named hB sW_ok S m h hc hr
theorem isFn53 : IsFn Try.prog 53 := ⟨_, _, _, Try.underlying53⟩
set_option maxHeartbeats 40000000 in
theorem none_hc (k now g to d nm : Int) (z : Bool) : HC Try.prog 6 [.agg [i64 k, i64 now, i64 g, i64 to, i64 d, .int .u32 nm], .sb z] [] [] 0 (fun _ : Unit => True) (fun _ => ⟨.tt, [], 0⟩) := by
  refine hc_of_run Try.func6 rfl (fun B hB hpin => ?_)
  refine goW hB [(6, 11)] 3000 rfl (by simp [conj]) ?_
  cases z with
  | false =>
    refine run_ff rfl ?_
    refine goW hB [(13, 15), (13, 17), (13, 19), (13, 21), (32, 16)] 3000 rfl (by simp [conj, Fits_i64, isBo4, isPt23, isIf20, isFn53, kinds, rowEqK76] <;> decide +kernel) ?_
    refine run_range named hB rfl rfl (by simp [conj]) rfl rfl rfl rfl ?_
    intro D l'
    have hB1 : (B.pin2 10 D l').ok := Base.pin2_ok hB
    refine goW hB1 [] 3000 rfl (by simp [conj, Fits_i64, isBo4, isPt23, isIf20, isFn53, kinds, rowEqK76] <;> decide +kernel) ?_
    refine run_inR [] (.inl rfl) trivial rfl rfl (by simp [conj]) ?_
    refine run_endR 11 rfl rfl (by decide) rfl ?_
    refine goW hB1 [(13, 15), (13, 17), (13, 19), (13, 21), (32, 16)] 3000 rfl (by simp [conj, Fits_i64, isBo4, isPt23, isIf20, isFn53, kinds, rowEqK76] <;> decide +kernel) ?_
    refine goW hB1 [(13, 15), (13, 17), (13, 19), (13, 21), (32, 16)] 3000 rfl (by simp [conj, Fits_i64, isBo4, isPt23, isIf20, isFn53, kinds, rowEqK76] <;> decide +kernel) ?_
    refine goW hB1 [(13, 15), (13, 17), (13, 19), (13, 21), (32, 16)] 3000 rfl (by simp [conj, Fits_i64, isBo4, isPt23, isIf20, isFn53, kinds, rowEqK76] <;> decide +kernel) ?_
    refine goW hB1 [(13, 15), (13, 17), (13, 19), (13, 21), (32, 16)] 3000 rfl (by simp [conj, Fits_i64, isBo4, isPt23, isIf20, isFn53, kinds, rowEqK76] <;> decide +kernel) ?_
    refine goW hB1 [(13, 15), (13, 17), (13, 19), (13, 21), (32, 16)] 3000 rfl (by simp [conj, Fits_i64, isBo4, isPt23, isIf20, isFn53, kinds, rowEqK76] <;> decide +kernel) ?_
    refine goW hB1 [(13, 15), (13, 17), (13, 19), (13, 21), (32, 16)] 3000 rfl (by simp [conj, Fits_i64, isBo4, isPt23, isIf20, isFn53, kinds, rowEqK76] <;> decide +kernel) ?_
    refine run_retMC ((More.refl B).pin2 hpin (by omega)) hpin () trivial [10] [] (.inr ⟨_, rfl⟩) ⟨rfl, rfl, trivial⟩ rfl rfl rfl (by simp [conj]) rfl ?_
    simp [conj]
  | true =>
    refine run_tt rfl ?_
    refine goW hB [(13, 15), (13, 17), (13, 19), (13, 21), (32, 16)] 3000 rfl (by simp [conj, Fits_i64, isBo4, isPt23, isIf20, isFn53, kinds, rowEqK76] <;> decide +kernel) ?_
    refine run_range named hB rfl rfl (by simp [conj]) rfl rfl rfl rfl ?_
    intro D l'
    have hB1 : (B.pin2 11 D l').ok := Base.pin2_ok hB
    refine goW hB1 [] 3000 rfl (by simp [conj, Fits_i64, isBo4, isPt23, isIf20, isFn53, kinds, rowEqK76] <;> decide +kernel) ?_
    refine run_inR [] (.inl rfl) trivial rfl rfl (by simp [conj]) ?_
    refine run_endR 12 rfl rfl (by decide) rfl ?_
    refine goW hB1 [(13, 15), (13, 17), (13, 19), (13, 21), (32, 16)] 3000 rfl (by simp [conj, Fits_i64, isBo4, isPt23, isIf20, isFn53, kinds, rowEqK76] <;> decide +kernel) ?_
    refine goW hB1 [(13, 15), (13, 17), (13, 19), (13, 21), (32, 16)] 3000 rfl (by simp [conj, Fits_i64, isBo4, isPt23, isIf20, isFn53, kinds, rowEqK76] <;> decide +kernel) ?_
    refine goW hB1 [(13, 15), (13, 17), (13, 19), (13, 21), (32, 16)] 3000 rfl (by simp [conj, Fits_i64, isBo4, isPt23, isIf20, isFn53, kinds, rowEqK76] <;> decide +kernel) ?_
    refine goW hB1 [(13, 15), (13, 17), (13, 19), (13, 21), (32, 16)] 3000 rfl (by simp [conj, Fits_i64, isBo4, isPt23, isIf20, isFn53, kinds, rowEqK76] <;> decide +kernel) ?_
    refine goW hB1 [(13, 15), (13, 17), (13, 19), (13, 21), (32, 16)] 3000 rfl (by simp [conj, Fits_i64, isBo4, isPt23, isIf20, isFn53, kinds, rowEqK76] <;> decide +kernel) ?_
    refine goW hB1 [(13, 15), (13, 17), (13, 19), (13, 21), (32, 16)] 3000 rfl (by simp [conj, Fits_i64, isBo4, isPt23, isIf20, isFn53, kinds, rowEqK76] <;> decide +kernel) ?_
    refine run_retMC ((More.refl B).pin2 hpin (by omega)) hpin () trivial [11] [] (.inr ⟨_, rfl⟩) ⟨rfl, rfl, trivial⟩ rfl rfl rfl (by simp [conj]) rfl ?_
    simp [conj]
end Sx
