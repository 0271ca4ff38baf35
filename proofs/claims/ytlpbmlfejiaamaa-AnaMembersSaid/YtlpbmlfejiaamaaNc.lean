/- The examples of chapter 44. Conditions: as each theorem says. -/
import Derived.Test.YtlpbmlfejiaamaaNb
set_option linter.unusedSimpArgs false
set_option linter.unusedVariables false
namespace Sx
open Go Go.Proofs
set_option maxRecDepth 100000
abbrev v57 : Int → Int := fun a => bif ieq a 5 then 2 else bif ieq a 7 then 1 else 0
abbrev m57 : SO := .map .u32 h57 (.ints .i64 v57)
abbrev gR : SO := .cells (List.replicate 386 .und ++ [.mp 1]) 64
theorem list1_hc : HC Try.prog 50 [.ptr 0 0, i64 1] [(1, m57)] [(0, gR)] 2 (fun _ : Unit => True) (fun _ => ⟨.sq 2 0 0 1 1 .own, [(1, m57), (2, .row 0 1 1 1 (rowL .u32 [7]) 29)], 3⟩) := by
  refine hc_of_run Try.func50 rfl (fun B hB hpin => ?_)
  refine goX hB 300 rfl (by simp [conj]) ?_
  refine run_callC (sorted_hc v57) named hB [4, 1] rfl rfl rfl rfl (by simp [conj]) (by simp [conj, less_rfl]) ?_
  rintro ⟨⟩ _
  refine ⟨show 2 ≤ 3 by omega, _, _, _, rfl, rfl, rfl, ?_⟩
  refine goX hB 900 rfl (by simp [conj, Fits_i64] <;> decide +kernel) ?_
  refine run_retC hpin () trivial [0, 1, 25] rfl rfl (by simp [conj]) rfl ?_
  simp [conj, less_rfl, ren_rowL]
  exact Less.rfl
theorem list2_hc : HC Try.prog 50 [.ptr 0 0, i64 2] [(1, m57)] [(0, gR)] 2 (fun _ : Unit => True) (fun _ => ⟨.sq 2 0 0 1 1 .own, [(1, m57), (2, .row 0 1 1 1 (rowL .u32 [5]) 29)], 3⟩) := by
  refine hc_of_run Try.func50 rfl (fun B hB hpin => ?_)
  refine goX hB 300 rfl (by simp [conj]) ?_
  refine run_callC (sorted_hc v57) named hB [4, 1] rfl rfl rfl rfl (by simp [conj]) (by simp [conj, less_rfl]) ?_
  rintro ⟨⟩ _
  refine ⟨show 2 ≤ 3 by omega, _, _, _, rfl, rfl, rfl, ?_⟩
  refine goX hB 900 rfl (by simp [conj, Fits_i64] <;> decide +kernel) ?_
  refine run_retC hpin () trivial [0, 1, 16] rfl rfl (by simp [conj]) rfl ?_
  simp [conj, less_rfl, ren_rowL]
  exact Less.rfl
abbrev gS1 : SO := .cells ([i64 17, i64 4, i64 16, .int .u64 2] ++ List.replicate 383 .und) 64
abbrev gS2 : SO := .cells ([i64 17, .und, .und, .und, i64 1, i64 0, .int .u64 0] ++ List.replicate 380 .und) 64
theorem state1_hc : HC Try.prog 41 [.ptr 0 0, i64 1] [] [(0, gS1)] 1 (fun _ : Unit => True) (fun _ => ⟨i64 4, [], 1⟩) := by
  refine hc_of_run Try.func41 rfl (fun B hB hpin => ?_)
  refine goX hB 300 rfl (by simp [conj, Fits_i64]) ?_
  exact run_retC hpin () trivial [0] rfl rfl (by simp [conj]) rfl (by simp [conj, less_rfl])
theorem state2_hc : HC Try.prog 41 [.ptr 0 0, i64 2] [] [(0, gS2)] 1 (fun _ : Unit => True) (fun _ => ⟨i64 1, [], 1⟩) := by
  refine hc_of_run Try.func41 rfl (fun B hB hpin => ?_)
  refine goX hB 300 rfl (by simp [conj, Fits_i64]) ?_
  exact run_retC hpin () trivial [0] rfl rfl (by simp [conj]) rfl (by simp [conj, less_rfl])
def rcS1 : RC := ⟨41, [.ptr 0 0, i64 1], [], [(0, gS1)], 1, i64 4, [], 1, [1]⟩
def rcS2 : RC := ⟨41, [.ptr 0 0, i64 2], [], [(0, gS2)], 1, i64 1, [], 1, [1]⟩
def rcL1 : RC := ⟨50, [.ptr 0 0, i64 1], [(1, m57)], [(0, gR)], 2, .sq 2 0 0 1 1 .own, [(1, m57), (2, .row 0 1 1 1 (rowL .u32 [7]) 29)], 3, [1, 0]⟩
def rcL2 : RC := ⟨50, [.ptr 0 0, i64 2], [(1, m57)], [(0, gR)], 2, .sq 2 0 0 1 1 .own, [(1, m57), (2, .row 0 1 1 1 (rowL .u32 [5]) 29)], 3, [1, 0]⟩
set_option maxHeartbeats 40000000 in
theorem works_pure : Pure Try.prog 9 [] .tt := by
  refine pure_of_run Try.func9 rfl (fun w' => ?_)
  refine goX (Base.all_ok _) 6000 rfl (by simp [conj, Fits_i64, isBo4, isPt23, isIf20, kinds, rowEqK76, ieq] <;> decide +kernel) ?_
  refine run_mlen [] List.nodup_nil (fun a => by simp) rfl rfl (by simp [conj]) rfl rfl ?_
  refine goX (Base.all_ok _) 6000 rfl (by simp [conj, Fits_i64, isBo4, isPt23, isIf20, kinds, rowEqK76, ieq] <;> decide +kernel) ?_
  refine run_mlen [7] (by simp) (fun a => by simp [ieq]) rfl rfl (by simp [conj]) rfl rfl ?_
  refine goX (Base.all_ok _) 12000 rfl (by simp [conj, Fits_i64, isBo4, isPt23, isIf20, kinds, rowEqK76, ieq] <;> decide +kernel) ?_
  refine run_draw0 mixed (fun t => ?_)
  refine run_drawC (M := modeU []) 1 16 rfl named (Base.all_ok _) (sumOk_nil _) [(234, rcS1), (239, rcL1)] ⟨⟨state1_hc, rfl, Nat.le_refl _⟩, ⟨list1_hc, rfl, by decide⟩, trivial⟩ rfl rfl rfl rfl rfl rfl ?_ (fun t => ?_)
  · simp [conj, less_rfl, SO.Live]
    exact ⟨fun a => by simp [h57], by decide +kernel, by decide +kernel, by decide +kernel⟩
  refine run_drawE rfl ?_
  refine goX (Base.all_ok _) 12000 rfl (by simp [conj, Fits_i64, isBo4, isPt23, isIf20, kinds, rowEqK76, ieq] <;> decide +kernel) ?_
  refine run_draw0 mixed (fun t => ?_)
  refine run_drawC (M := modeU []) 1 16 rfl named (Base.all_ok _) (sumOk_nil _) [(251, rcS2), (256, rcL2)] ⟨⟨state2_hc, rfl, Nat.le_refl _⟩, ⟨list2_hc, rfl, by decide⟩, trivial⟩ rfl rfl rfl rfl rfl rfl ?_ (fun t => ?_)
  · simp [conj, less_rfl, SO.Live]
    decide +kernel
  refine run_drawE rfl ?_
  refine goX (Base.all_ok _) 12000 rfl (by simp [conj, Fits_i64, isBo4, isPt23, isIf20, kinds, rowEqK76, ieq] <;> decide +kernel) ?_
  exact fin rfl (by simp [conj]) rfl rfl
end Sx
