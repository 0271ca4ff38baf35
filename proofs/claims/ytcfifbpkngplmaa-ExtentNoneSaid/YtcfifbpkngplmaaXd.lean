/- What ExtentNone computes: true. Conditions: as each theorem says. -/
import Derived.Test.YtcfifbpkngplmaaXb
set_option linter.unusedSimpArgs false
set_option linter.unusedVariables false
namespace Sx
open Go Go.Proofs
set_option maxRecDepth 100000
theorem isFn43 : IsFn Try.prog 43 := ⟨_, _, _, Try.underlying43⟩
abbrev ref0 : SV := .agg [i64 0, i64 0, .nilsl]
abbrev exZ : SO := .cells [.nilsl, i64 0, i64 0, i64 0, .nilmp] 66
theorem over_nil : HC Try.prog 29 [.nil, ref0, i64 9] [] [] 0 (fun _ : Unit => True) (fun _ => ⟨.tt, [], 0⟩) := by
  refine hc_of_run Try.func29 rfl (fun B hB hpin => ?_)
  refine goW hB [] 3000 rfl (by simp [conj, Fits_i64, isBo4, isIf20, isPt23, isSl41, isFn43]) ?_
  refine run_range named hB rfl rfl (by simp [conj]) rfl rfl rfl rfl ?_
  intro D l'
  have hB1 : (B.pin2 6 D l').ok := Base.pin2_ok hB
  have hpin1 : PinTo (B.pin2 6 D l') 8 := hpin.pin2 (by omega)
  refine goW hB1 [] 3000 rfl (by simp [conj, Fits_i64, isBo4, isIf20, isPt23, isSl41, isFn43]) ?_
  refine run_inR [] (.inl rfl) trivial rfl rfl (by simp [conj]) ?_
  refine run_endR 7 rfl rfl (by decide) rfl ?_
  refine goW hB1 [] 3000 rfl (by simp [conj, Fits_i64, isBo4, isIf20, isPt23, isSl41, isFn43]) ?_
  refine run_retMC ((More.refl B).pin2 hpin (by omega)) hpin () trivial [6] [] (.inr ⟨_, rfl⟩) ⟨rfl, rfl, trivial⟩ rfl rfl rfl (by simp [conj]) rfl ?_
  simp [conj, less_rfl]
theorem over_zero : HC Try.prog 29 [.ptr 0 0, ref0, i64 9] [(0, exZ)] [] 1 (fun _ : Unit => True) (fun _ => ⟨.tt, [(0, exZ)], 1⟩) := by
  refine hc_of_run Try.func29 rfl (fun B hB hpin => ?_)
  refine goW hB [] 3000 rfl (by simp [conj, Fits_i64, isBo4, isIf20, isPt23, isSl41, isFn43]) ?_
  refine run_range named hB rfl rfl (by simp [conj]) rfl rfl rfl rfl ?_
  intro D l'
  have hB1 : (B.pin2 7 D l').ok := Base.pin2_ok hB
  have hpin1 : PinTo (B.pin2 7 D l') 9 := hpin.pin2 (by omega)
  refine goW hB1 [] 3000 rfl (by simp [conj, Fits_i64, isBo4, isIf20, isPt23, isSl41, isFn43]) ?_
  refine run_inR [] (.inl rfl) trivial rfl rfl (by simp [conj]) ?_
  refine run_endR 8 rfl rfl (by decide) rfl ?_
  refine goW hB1 [] 3000 rfl (by simp [conj, Fits_i64, isBo4, isIf20, isPt23, isSl41, isFn43]) ?_
  refine run_retMC ((More.refl B).pin2 hpin (by omega)) hpin () trivial [7] [0] (.inr ⟨_, rfl⟩) ⟨rfl, rfl, trivial⟩ rfl rfl rfl (by simp [conj]) rfl ?_
  simp [conj, less_rfl]
set_option maxHeartbeats 40000000 in
theorem none_pure (k i s n : Int) (z : Bool) : Pure Try.prog 7 [.agg [i64 k, i64 i, i64 s, i64 n], .sb z] .tt := by
  refine pure_of_run Try.func7 rfl (fun w' => ?_)
  refine goW (Base.all_ok _) [(7, 14)] 3000 rfl (by simp [conj]) ?_
  cases z with
  | false =>
    refine run_ff rfl ?_
    refine goW (Base.all_ok _) [(17, 15), (17, 17), (39, 11)] 6000 rfl (by simp [conj, Fits_i64, isBo4, isIf20, isPt23, isSl41, isFn43]) ?_
    refine goW (Base.all_ok _) [(17, 15), (17, 17), (39, 11)] 6000 rfl (by simp [conj, Fits_i64, isBo4, isIf20, isPt23, isSl41, isFn43]) ?_
    refine goW (Base.all_ok _) [(17, 15), (17, 17), (39, 11)] 6000 rfl (by simp [conj, Fits_i64, isBo4, isIf20, isPt23, isSl41, isFn43]) ?_
    refine goW (Base.all_ok _) [(17, 15), (17, 17), (39, 11)] 6000 rfl (by simp [conj, Fits_i64, isBo4, isIf20, isPt23, isSl41, isFn43]) ?_
    refine goW (Base.all_ok _) [(17, 15), (17, 17), (39, 11)] 6000 rfl (by simp [conj, Fits_i64, isBo4, isIf20, isPt23, isSl41, isFn43]) ?_
    refine run_callC over_nil named (Base.all_ok _) [] rfl rfl rfl rfl (by simp [conj]) (by simp [conj, less_rfl]) ?_
    rintro ⟨⟩ _
    refine ⟨show 0 ≤ 0 by omega, _, _, _, rfl, rfl, rfl, ?_⟩
    refine goW (Base.all_ok _) [] 6000 rfl (by simp [conj, Fits_i64, isBo4, isIf20, isPt23, isSl41, isFn43]) ?_
    exact fin rfl (by simp [conj]) rfl rfl
  | true =>
    refine run_tt rfl ?_
    refine goW (Base.all_ok _) [(17, 15), (17, 17), (39, 11)] 6000 rfl (by simp [conj, Fits_i64, isBo4, isIf20, isPt23, isSl41, isFn43]) ?_
    refine goW (Base.all_ok _) [(17, 15), (17, 17), (39, 11)] 6000 rfl (by simp [conj, Fits_i64, isBo4, isIf20, isPt23, isSl41, isFn43]) ?_
    refine goW (Base.all_ok _) [(17, 15), (17, 17), (39, 11)] 6000 rfl (by simp [conj, Fits_i64, isBo4, isIf20, isPt23, isSl41, isFn43]) ?_
    refine goW (Base.all_ok _) [(17, 15), (17, 17), (39, 11)] 6000 rfl (by simp [conj, Fits_i64, isBo4, isIf20, isPt23, isSl41, isFn43]) ?_
    refine goW (Base.all_ok _) [(17, 15), (17, 17), (39, 11)] 6000 rfl (by simp [conj, Fits_i64, isBo4, isIf20, isPt23, isSl41, isFn43]) ?_
    refine run_callC over_zero named (Base.all_ok _) [1] rfl rfl rfl rfl (by simp [conj]) (by simp [conj, less_rfl]) ?_
    rintro ⟨⟩ _
    refine ⟨show 1 ≤ 1 by omega, _, _, _, rfl, rfl, rfl, ?_⟩
    refine goW (Base.all_ok _) [] 6000 rfl (by simp [conj, Fits_i64, isBo4, isIf20, isPt23, isSl41, isFn43]) ?_
    exact fin rfl (by simp [conj]) rfl rfl
end Sx
