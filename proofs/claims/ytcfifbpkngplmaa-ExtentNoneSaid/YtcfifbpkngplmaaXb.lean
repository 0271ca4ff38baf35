/- What ExtentBounds computes: true. Conditions: as each theorem says. -/
import Derived.Test.YtcfifbpkngplmaaXa
set_option linter.unusedSimpArgs false
set_option linter.unusedVariables false
namespace Sx
open Go Go.Proofs
set_option maxRecDepth 100000
def FWorks : List SV → Option (List Prop × SV)
  | [] => some ([], .tt)
  | _ => none
theorem FWorks_ok : PureOk Try.prog 8 FWorks := by
  intro xs cs r h hc
  unfold FWorks at h
  split at h <;> first | exact (none_ne h).elim | skip
  simp only [Option.some.injEq, Prod.mk.injEq] at h; obtain ⟨rfl, rfl⟩ := h
  exact ⟨rfl, works_pure⟩
def sW : SumL := [(8, FWorks)]
theorem sW_ok : SumOk Try.prog (sumOf sW) := sumOk_cons FWorks_ok (sumOk_nil _)
/-- The functions with a contract. -/
theorem goW {B : Base} (hB : B.ok) {ro : Hp} {f : FuncId} {R : Ending → World → Prop} (S : List (Nat × Nat)) (m : Nat) {cs : List Prop} {c c' : Cfg} (h : execY Try.prog (modeU sW) ro S m [] c = (cs, c')) (hc : conj cs)
    (hr : Run Try.prog ro B f R c') : Run Try.prog ro B f R c := run_goY mixed named hB sW_ok S m h hc hr
abbrev most (u : Int) : Int := Int.tdiv 16777216 u * u
abbrev exC (T u : Int) : SO := .cells [.nilsl, i64 1, i64 T, i64 u, .und] 66
theorem free_hc (T u : Int) (h0 : 0 < u) (h1 : 0 ≤ T) (h2 : T ≤ 16777216) : HC Try.prog 14 [.ptr 0 0] [] [(0, exC T u)] 1 (fun _ : Unit => True) (fun _ => ⟨i64 (T - 1), [], 1⟩) := by
  refine hc_of_run Try.func14 rfl (fun B hB hpin => ?_)
  refine goW hB [(35, 10)] 3000 rfl (by simp [conj, Fits_i64, isBo4, isIf20, isPt23, isSl41] <;> omega) ?_
  refine run_ff (by simp; omega) ?_
  refine goW hB [] 3000 rfl (by simp [conj, Fits_i64, isBo4, isIf20, isPt23, isSl41] <;> omega) ?_
  refine run_retC hpin () trivial [0] rfl rfl (by simp [conj]) rfl ?_
  simp [conj, less_rfl]
def rcF (T u : Int) (sg : List Nat) : RC := ⟨14, [.ptr 0 0], [], [(0, exC T u)], 1, i64 (T - 1), [], 1, sg⟩
set_option maxHeartbeats 40000000 in
theorem bounds_pure (u s : Int) : Pure Try.prog 3 [i64 u, i64 s] .tt := by
  refine pure_of_run Try.func3 rfl (fun w' => ?_)
  refine goW (Base.all_ok _) [(3, 13)] 1000 rfl (by simp [conj]) ?_
  by_cases h1 : u < 1
  · refine run_tt (by simpa using h1) ?_
    refine goW (Base.all_ok _) [] 1000 rfl (by simp [conj]) ?_
    exact fin rfl (by simp [conj]) rfl rfl
  refine run_ff (by simpa using h1) ?_
  refine goW (Base.all_ok _) [(3, 16)] 1000 rfl (by simp [conj]) ?_
  by_cases h2 : 4096 < u
  · refine run_tt (by simpa using h2) ?_
    refine goW (Base.all_ok _) [] 1000 rfl (by simp [conj]) ?_
    exact fin rfl (by simp [conj]) rfl rfl
  refine run_ff (by simpa using h2) ?_
  refine goW (Base.all_ok _) [(3, 20)] 1000 rfl (by simp [conj]) ?_
  by_cases h3 : s < 0
  · refine run_tt (by simpa using h3) ?_
    refine goW (Base.all_ok _) [] 1000 rfl (by simp [conj]) ?_
    exact fin rfl (by simp [conj]) rfl rfl
  refine run_ff (by simpa using h3) ?_
  have hu0 : 0 < u := by omega
  have hT0 : 4096 ≤ 16777216 / u := Int.le_ediv_of_mul_le hu0 (by omega)
  have hT1 : 16777216 / u * u ≤ 16777216 := Int.ediv_mul_le _ (by omega)
  have hT2 : 16777216 / u ≤ 16777216 := Int.ediv_le_self _ (by decide)
  have hT3 : 16777216 < 16777216 / u * u + u := by
    have := Int.lt_ediv_add_one_mul_self 16777216 hu0
    rw [Int.add_mul] at this; omega
  have hT4 : u * (16777216 / u) = 16777216 / u * u := Int.mul_comm _ _
  have hT5 : 16777216 / u * u / u = 16777216 / u := Int.mul_ediv_cancel _ (by omega)
  have hS0 : 0 ≤ s % u := Int.emod_nonneg _ (by omega)
  have hS1 : s % u < u := Int.emod_lt_of_pos _ hu0
  have hq : s % u / u = 0 := Int.ediv_eq_zero_of_lt hS0 hS1
  have e0 : 0 + (s % u / u).toNat = 0 := by rw [hq]; rfl
  refine goW (Base.all_ok _) [(3, 28)] 1000 rfl (by simp [conj, Fits_i64]; omega) ?_
  by_cases h4 : 16777216 / u * u ≤ s
  · refine run_tt (by simpa using h4) ?_
    refine goW (Base.all_ok _) [] 1000 rfl (by simp [conj]) ?_
    exact fin rfl (by simp [conj]) rfl rfl
  refine run_ff (by simpa using h4) ?_
  -- New
  refine goW (Base.all_ok _) [(9, 12)] 1000 rfl (by simp [conj, Fits_i64, isBo4, isIf20, isPt23, isSl41]) ?_
  refine run_tt (by simp; omega) ?_
  refine goW (Base.all_ok _) [(9, 14)] 1000 rfl (by simp [conj, Fits_i64, isBo4, isIf20, isPt23, isSl41]) ?_
  refine run_tt (by simp; omega) ?_
  refine goW (Base.all_ok _) [(9, 17)] 1000 rfl (by simp [conj, Fits_i64, isBo4, isIf20, isPt23, isSl41]) ?_
  refine run_tt (by simp; omega) ?_
  refine goW (Base.all_ok _) [(9, 12)] 1000 rfl (by simp [conj, Fits_i64, isBo4, isIf20, isPt23, isSl41]; omega) ?_
  refine run_tt (by simp; omega) ?_
  refine goW (Base.all_ok _) [(9, 14)] 1000 rfl (by simp [conj, Fits_i64, isBo4, isIf20, isPt23, isSl41]) ?_
  refine run_tt (by simp; omega) ?_
  refine goW (Base.all_ok _) [(9, 17)] 1000 rfl (by simp [conj, Fits_i64, isBo4, isIf20, isPt23, isSl41]) ?_
  refine run_tt (by simp; omega) ?_
  -- Create
  refine goW (Base.all_ok _) [(35, 10)] 3000 rfl (by simp [conj, Fits_i64, isBo4, isIf20, isPt23, isSl41] <;> omega) ?_
  refine run_ff (by simp; omega) ?_
  refine goW (Base.all_ok _) [(35, 10)] 3000 rfl (by simp [conj, Fits_i64, isBo4, isIf20, isPt23, isSl41] <;> omega) ?_
  refine run_ff (by simp; omega) ?_
  refine goW (Base.all_ok _) [(35, 10)] 3000 rfl (by simp [conj, Fits_i64, isBo4, isIf20, isPt23, isSl41] <;> omega) ?_
  refine run_ff (by simp; omega) ?_
  refine goW (Base.all_ok _) [(74, 15)] 3000 rfl (by simp [conj, Fits_i64, isBo4, isIf20, isPt23, isSl41] <;> omega) ?_
  refine run_tt (by simp <;> omega) ?_
  refine goW (Base.all_ok _) [(74, 15)] 3000 rfl (by simp [conj, Fits_i64, isBo4, isIf20, isPt23, isSl41] <;> omega) ?_
  refine run_tt (by simp <;> omega) ?_
  refine goW (Base.all_ok _) [(74, 15)] 3000 rfl (by simp [conj, Fits_i64, isBo4, isIf20, isPt23, isSl41] <;> omega) ?_
  refine run_tt (by simp <;> omega) ?_
  refine goW (Base.all_ok _) [(74, 15)] 3000 rfl (by simp [conj, Fits_i64, isBo4, isIf20, isPt23, isSl41] <;> omega) ?_
  refine run_ff (by simp; omega) ?_
  refine goW (Base.all_ok _) [(35, 10)] 3000 rfl (by simp [conj, Fits_i64, isBo4, isIf20, isPt23, isSl41] <;> omega) ?_
  refine run_ff (by simp; omega) ?_
  refine goW (Base.all_ok _) [(74, 15)] 3000 rfl (by simp [conj, Fits_i64, isBo4, isIf20, isPt23, isSl41] <;> omega) ?_
  refine run_tt (by simp <;> omega) ?_
  refine goW (Base.all_ok _) [(74, 15)] 3000 rfl (by simp [conj, Fits_i64, isBo4, isIf20, isPt23, isSl41] <;> omega) ?_
  refine run_tt (by simp <;> omega) ?_
  refine goW (Base.all_ok _) [(74, 15)] 3000 rfl (by simp [conj, Fits_i64, isBo4, isIf20, isPt23, isSl41] <;> omega) ?_
  refine run_tt (by simp <;> omega) ?_
  refine goW (Base.all_ok _) [(74, 15)] 3000 rfl (by simp [conj, Fits_i64, isBo4, isIf20, isPt23, isSl41] <;> omega) ?_
  refine run_tt (by simp <;> omega) ?_
  refine goW (Base.all_ok _) [] 3000 rfl (by simp [conj, Fits_i64, isBo4, isIf20, isPt23, isSl41]) ?_
  have hD : (u + u - 1) / u = 1 := by
    rw [Int.ediv_eq_iff_of_pos hu0]; omega
  refine run_draw0 mixed (fun t => ?_)
  refine run_drawC (M := modeU []) 1 21 rfl named (Base.all_ok _) (sumOk_nil _) [(97 + 18, rcZ 1)] ⟨rcZ_ok 1 (by decide) (by decide), trivial⟩ rfl rfl rfl rfl rfl rfl ?_ (fun t => ?_)
  · simp [conj, Fits_i64, isBo4, isIf20, isPt23, isSl41, hD]
    omega
  refine run_drawE rfl ?_
  refine goW (Base.all_ok _) [] 3000 rfl (by simp [conj, Fits_i64, isBo4, isIf20, isPt23, isSl41] <;> omega) ?_
  -- Place
  refine run_draw0 mixed (fun t => ?_)
  refine run_draw (M := modeU sW) 7 named (Base.all_ok _) sW_ok rfl rfl rfl rfl rfl (by simp [conj]; omega) (fun t => ?_)
  refine run_draw1 rfl rfl rfl ?_
  refine goW (Base.all_ok _) [(39, 11)] 3000 rfl (by simp [conj, Fits_i64, isBo4, isIf20, isPt23, isSl41] <;> omega) ?_
  refine run_tt (by simp; omega) ?_
  refine goW (Base.all_ok _) [(35, 10)] 3000 rfl (by simp [conj, Fits_i64, isBo4, isIf20, isPt23, isSl41] <;> omega) ?_
  refine run_ff (by simp; omega) ?_
  refine goW (Base.all_ok _) [(39, 17)] 3000 rfl (by simp [conj, Fits_i64, isBo4, isIf20, isPt23, isSl41] <;> omega) ?_
  refine run_tt (by simp; omega) ?_
  refine goW (Base.all_ok _) [(18, 30)] 3000 rfl (by simp [conj, Fits_i64, isBo4, isIf20, isPt23, isSl41, hq] <;> omega) ?_
  refine run_tt rfl ?_
  rw [e0]
  refine goW (Base.all_ok _) [(47, 37)] 3000 rfl (by simp [conj, Fits_i64, isBo4, isIf20, isPt23, isSl41] <;> omega) ?_
  refine run_tt (by simp; omega) ?_
  refine goW (Base.all_ok _) [(12, 26)] 3000 rfl (by simp [conj, Fits_i64, isBo4, isIf20, isPt23, isSl41] <;> omega) ?_
  refine run_tt (by simp) ?_
  refine goW (Base.all_ok _) [] 3000 rfl (by simp [conj, Fits_i64, isBo4, isIf20, isPt23, isSl41] <;> omega) ?_
  -- Look
  refine run_draw (M := modeU sW) 3 named (Base.all_ok _) sW_ok rfl rfl rfl rfl rfl (by simp [conj]) (fun t => ?_)
  refine run_draw1 rfl rfl rfl ?_
  refine goW (Base.all_ok _) [(39, 11)] 3000 rfl (by simp [conj, Fits_i64, isBo4, isIf20, isPt23, isSl41] <;> omega) ?_
  refine run_tt (by simp; try omega) ?_
  refine goW (Base.all_ok _) [(35, 10)] 3000 rfl (by simp [conj, Fits_i64, isBo4, isIf20, isPt23, isSl41] <;> omega) ?_
  refine run_ff (by simp; try omega) ?_
  refine goW (Base.all_ok _) [(39, 17)] 3000 rfl (by simp [conj, Fits_i64, isBo4, isIf20, isPt23, isSl41] <;> omega) ?_
  refine run_ff (by simp; try omega) ?_
  refine goW (Base.all_ok _) [] 3000 rfl (by simp [conj, Fits_i64, isBo4, isIf20, isPt23, isSl41] <;> omega) ?_
  refine run_draw (M := modeU sW) 2 named (Base.all_ok _) sW_ok rfl rfl rfl rfl rfl (by simp [conj]) (fun t => ?_)
  refine run_drawC (M := modeU sW) 1 7 rfl named (Base.all_ok _) sW_ok [(197, rcF (16777216 / u) u [4])] ⟨⟨free_hc _ u hu0 (by omega) hT2, rfl, Nat.le_refl _⟩, trivial⟩ rfl rfl rfl rfl rfl rfl ?_ (fun t => ?_)
  · simp [conj, Fits_i64, less_rfl, SO.Live]
    omega
  refine run_tt (by simp [hT5]) ?_
  refine run_draw (M := modeU sW) 5 named (Base.all_ok _) sW_ok rfl rfl rfl rfl rfl (by simp [conj]) (fun t => ?_)
  refine run_drawE rfl ?_
  refine goW (Base.all_ok _) [] 3000 rfl (by simp [conj]) ?_
  exact fin rfl (by simp [conj]) rfl rfl
end Sx
