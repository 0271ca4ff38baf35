/- The examples of chapter 29. Conditions: as each theorem says. -/
import Derived.Test.YtmnlmghchegjaaaRd
set_option linter.unusedSimpArgs false
set_option linter.unusedVariables false
namespace Sx
open Go Go.Proofs
set_option maxRecDepth 100000
set_option maxHeartbeats 400000000 in
theorem works_pure : Pure Try.prog 8 [] .tt := by
  refine pure_of_run Try.func8 rfl (fun w' => ?_)
  refine goX (Base.all_ok _) 6000 rfl (by simp [conj, Fits_i64, isBo4, isPt25, isMp43, isMp44, isSl92, isSl47, isIf20, kinds, rowEqK49, rowEqK82, ieq] <;> decide +kernel) ?_
  refine run_draw0 mixed (fun t => ?_)
  refine run_drawC (M := modeU []) 1 14 rfl named (Base.all_ok _) (sumOk_nil _) [(15, rcN (fun _ => false) 0), (20, rcK (fun _ => false) (fun _ => 0) 1)] ⟨rcN_ok _ _, rcK_ok _ _ _, trivial⟩ rfl rfl rfl rfl rfl rfl (by simp [conj, less_rfl, SO.Live, ieq, hA, hB, hC, vA, vB, less_nE, less_nE2] <;> decide +kernel) (fun t => ?_)
  refine run_drawE rfl ?_
  refine goX (Base.all_ok _) 6000 rfl (by simp [conj, Fits_i64, isBo4, isPt25, isMp43, isMp44, isSl92, isSl47, isIf20, kinds, rowEqK49, rowEqK82, ieq] <;> decide +kernel) ?_
  refine run_mlen [] (by simp) (fun a => by simp [ieq, eq_comm]) rfl rfl (by simp [conj]) rfl rfl ?_
  refine goX (Base.all_ok _) 6000 rfl (by simp [conj, Fits_i64, isBo4, isPt25, isMp43, isMp44, isSl92, isSl47, isIf20, kinds, rowEqK49, rowEqK82, ieq] <;> decide +kernel) ?_
  refine run_draw0 mixed (fun t => ?_)
  refine run_drawC (M := modeU []) 1 14 rfl named (Base.all_ok _) (sumOk_nil _) [(69, rcN (fun _ => false) 15), (74, rcK hA vA 20)] ⟨rcN_ok _ _, rcK_ok _ _ _, trivial⟩ rfl rfl rfl rfl rfl rfl (by simp [conj, less_rfl, SO.Live, ieq, hA, hB, hC, vA, vB, less_nE, less_nE2] <;> decide +kernel) (fun t => ?_)
  refine run_drawE rfl ?_
  refine goX (Base.all_ok _) 6000 rfl (by simp [conj, Fits_i64, isBo4, isPt25, isMp43, isMp44, isSl92, isSl47, isIf20, kinds, rowEqK49, rowEqK82, ieq] <;> decide +kernel) ?_
  refine run_draw0 mixed (fun t => ?_)
  refine run_drawC (M := modeU []) 1 14 rfl named (Base.all_ok _) (sumOk_nil _) [(115, rcN (fun _ => false) 15), (120, rcK hA vA 20)] ⟨rcN_ok _ _, rcK_ok _ _ _, trivial⟩ rfl rfl rfl rfl rfl rfl (by simp [conj, less_rfl, SO.Live, ieq, hA, hB, hC, vA, vB, less_nE, less_nE2] <;> decide +kernel) (fun t => ?_)
  refine run_drawE rfl ?_
  refine goX (Base.all_ok _) 6000 rfl (by simp [conj, Fits_i64, isBo4, isPt25, isMp43, isMp44, isSl92, isSl47, isIf20, kinds, rowEqK49, rowEqK82, ieq] <;> decide +kernel) ?_
  refine run_mlen [1] (by simp) (fun a => by simp [ieq, eq_comm]) rfl rfl (by simp [conj]) rfl rfl ?_
  refine goX (Base.all_ok _) 6000 rfl (by simp [conj, Fits_i64, isBo4, isPt25, isMp43, isMp44, isSl92, isSl47, isIf20, kinds, rowEqK49, rowEqK82, ieq] <;> decide +kernel) ?_
  refine run_draw0 mixed (fun t => ?_)
  refine run_drawC (M := modeU []) 1 14 rfl named (Base.all_ok _) (sumOk_nil _) [(169, rcN (fun _ => false) 115), (174, rcK hB vB 120)] ⟨rcN_ok _ _, rcK_ok _ _ _, trivial⟩ rfl rfl rfl rfl rfl rfl (by simp [conj, less_rfl, SO.Live, ieq, hA, hB, hC, vA, vB, less_nE, less_nE2] <;> decide +kernel) (fun t => ?_)
  refine run_drawE rfl ?_
  refine goW (Base.all_ok _) [(16, 14)] 6000 rfl (by simp [conj, Fits_i64, isBo4, isPt25, isMp43, isMp44, isSl92, isSl47, isIf20, kinds, rowEqK49, rowEqK82, ieq] <;> decide +kernel) ?_
  refine run_tt (by decide +kernel) ?_
  refine run_toK (pin0 w') [(14, .tt)] [[(28, .ff), (1, .ptr 2 0), (0, .ff)]] [(2, .cells [.mp 0, .mp 1, i64 0, u64 0, .int .u32 2, .ff] 46), (0, ntc (fun _ => false)), (1, .map .u64 hB (.ints .u64 vB))] [115, 120, 2] rfl rfl ?_ ?_
  · simp [conj, less_rfl, ieq, hA, hB, vA, vB, ren, renF] <;> decide +kernel
  refine goX (Base.all_ok _) 6000 rfl (by simp [conj, Fits_i64, isBo4, isPt25, isMp43, isMp44, isSl92, isSl47, isIf20, kinds, rowEqK49, rowEqK82, ieq] <;> decide +kernel) ?_
  refine run_draw0 mixed (fun t => ?_)
  refine run_drawC (M := modeU []) 1 14 rfl named (Base.all_ok _) (sumOk_nil _) [(16, rcN (fun _ => false) 0), (21, rcK hB vB 1)] ⟨rcN_ok _ _, rcK_ok _ _ _, trivial⟩ rfl rfl rfl rfl rfl rfl (by simp [conj, less_rfl, SO.Live, ieq, hA, hB, hC, vA, vB, less_nE, less_nE2] <;> decide +kernel) (fun t => ?_)
  refine run_drawE rfl ?_
  refine goX (Base.all_ok _) 6000 rfl (by simp [conj, Fits_i64, isBo4, isPt25, isMp43, isMp44, isSl92, isSl47, isIf20, kinds, rowEqK49, rowEqK82, ieq] <;> decide +kernel) ?_
  refine run_draw0 mixed (fun t => ?_)
  refine run_drawC (M := modeU []) 1 14 rfl named (Base.all_ok _) (sumOk_nil _) [(45, rcN (fun _ => false) 16), (50, rcK hB vB 21)] ⟨rcN_ok _ _, rcK_ok _ _ _, trivial⟩ rfl rfl rfl rfl rfl rfl (by simp [conj, less_rfl, SO.Live, ieq, hA, hB, hC, vA, vB, less_nE, less_nE2] <;> decide +kernel) (fun t => ?_)
  refine run_drawE rfl ?_
  refine goW (Base.all_ok _) [(16, 6)] 6000 rfl (by simp [conj, Fits_i64, isBo4, isPt25, isMp43, isMp44, isSl92, isSl47, isIf20, kinds, rowEqK49, rowEqK82, ieq] <;> decide +kernel) ?_
  refine run_tt (by decide +kernel) ?_
  refine run_toK (pin0 w') [(6, .tt), (4, .ff), (2, .ptr 3 0)] [[(5, .ptr 4 0), (1, .ptr 2 0), (0, .ff)]] [(2, .cells [.mp 0, .mp 1, i64 1, u64 1, .int .u32 2, .ff] 46), (0, ntc (fun _ => false)), (1, .map .u64 hB (.ints .u64 vB)), (3, .cells [.int .u8 0, .int .u8 0, .ff, .ff] 49), (4, .cells [.int .u8 0, .int .u8 131, .ff, .tt] 49)] [16, 21, 2, 62, 61] rfl rfl ?_ ?_
  · simp [conj, less_rfl, ieq, hA, hB, vA, vB, ren, renF] <;> decide +kernel
  refine goX (Base.all_ok _) 6000 rfl (by simp [conj, Fits_i64, isBo4, isPt25, isMp43, isMp44, isSl92, isSl47, isIf20, kinds, rowEqK49, rowEqK82, ieq] <;> decide +kernel) ?_
  refine run_draw0 mixed (fun t => ?_)
  refine run_drawC (M := modeU []) 1 14 rfl named (Base.all_ok _) (sumOk_nil _) [(19, rcN (fun _ => false) 0), (24, rcK hB vB 1)] ⟨rcN_ok _ _, rcK_ok _ _ _, trivial⟩ rfl rfl rfl rfl rfl rfl (by simp [conj, less_rfl, SO.Live, ieq, hA, hB, hC, vA, vB, less_nE, less_nE2] <;> decide +kernel) (fun t => ?_)
  refine run_drawE rfl ?_
  refine goX (Base.all_ok _) 6000 rfl (by simp [conj, Fits_i64, isBo4, isPt25, isMp43, isMp44, isSl92, isSl47, isIf20, kinds, rowEqK49, rowEqK82, ieq] <;> decide +kernel) ?_
  refine run_draw0 mixed (fun t => ?_)
  refine run_drawC (M := modeU []) 1 31 rfl named (Base.all_ok _) (sumOk_nil _) [(42, rcSh 1 14)] ⟨rcSh_ok _ _, trivial⟩ rfl rfl rfl rfl rfl rfl (by simp [conj, less_rfl, SO.Live, ieq, hA, hB, hC, vA, vB] <;> decide +kernel) (fun t => ?_)
  refine run_drawE rfl ?_
  refine goX (Base.all_ok _) 6000 rfl (by simp [conj, Fits_i64, isBo4, isPt25, isMp43, isMp44, isSl92, isSl47, isIf20, kinds, rowEqK49, rowEqK82, ieq] <;> decide +kernel) ?_
  refine run_callC (sorted2_hc hB vB keysB) named (Base.all_ok _) [64, 24] rfl rfl rfl rfl (by simp [conj]) (by simp [conj, less_rfl, ieq, hA, hB, hC, vA, vB]) ?_
  rintro ⟨⟩ _
  refine ⟨show 2 ≤ 3 by omega, _, _, _, rfl, rfl, rfl, ?_⟩
  refine goX (Base.all_ok _) 6000 rfl (by simp [conj, Fits_i64, isBo4, isPt25, isMp43, isMp44, isSl92, isSl47, isIf20, kinds, rowEqK49, rowEqK82, ieq] <;> decide +kernel) ?_
  refine run_mdel rfl rfl (by simp [conj]) rfl rfl rfl ?_
  refine goX (Base.all_ok _) 6000 rfl (by simp [conj, Fits_i64, isBo4, isPt25, isMp43, isMp44, isSl92, isSl47, isIf20, kinds, rowEqK49, rowEqK82, ieq] <;> decide +kernel) ?_
  refine run_draw0 mixed (fun t => ?_)
  refine run_drawC (M := modeU []) 1 7 rfl named (Base.all_ok _) (sumOk_nil _) [(120, rcO2 hC vB 14 24)] ⟨rcO2_ok _ _ keysC _ _, trivial⟩ rfl rfl rfl rfl rfl rfl (by simp [conj, less_rfl, SO.Live, ieq, hA, hB, hC, vA, vB] <;> decide +kernel) (fun t => ?_)
  refine run_chain rfl rfl ?_
  refine goX (Base.all_ok _) 6000 rfl (by simp [conj, Fits_i64, isBo4, isPt25, isMp43, isMp44, isSl92, isSl47, isIf20, kinds, rowEqK49, rowEqK82, ieq] <;> decide +kernel) ?_
  refine run_toK (pin0 w') [(10, .ptr 4 0), (9, .tt), (8, i64 1), (7, .ptr 3 0), (6, .sq 6 0 0 1 1 .no), (1, .ptr 2 0), (0, .ff)] [] [(0, ntc hA), (1, mC), (2, .cells [.mp 0, .mp 1, i64 3, u64 2, .int .u32 3, .ff] 46), (3, .cells [.int .u8 0, .int .u8 0, .ff, .ff] 49), (4, .cells [.int .u32 3, i64 3, .ff, .sq 5 0 0 3 1 .no] 67), (5, .cells [u64 2, u64 20, .tt] 82), (6, .row 0 1 1 1 (rowL .u64 [1]) 23)] [19, 24, 2, 126, 128, 127, 84] rfl rfl ?_ ?_
  · simp [conj, less_rfl, ieq, hA, hB, hC, vA, vB, ren, renF]
    refine ⟨?_, by decide +kernel, Less.rfl⟩
    simp only [natF_eq]
    exact less_nil _ _ _ _ _ _ _
  refine run_draw0 mixed (fun t => ?_)
  refine run_drawC (M := modeU []) 1 33 rfl named (Base.all_ok _) (sumOk_nil _) [(9, rcHosts 6 8), (13, rcCode0), (26, rcAl 1 .ff 2 1), (30, rcAl 2 .tt 2 1), (35, rcRep 2 1), (37, rcSm 35 5)] ⟨rcHosts_ok _ _, rcCode0_ok, ⟨allow1_hc, rfl, Nat.le_refl _⟩, ⟨allow2_hc, rfl, Nat.le_refl _⟩, ⟨report_hc, rfl, by decide⟩, ⟨same_hc, rfl, Nat.le_refl _⟩, trivial⟩ rfl rfl rfl rfl rfl rfl ?_ (fun t => ?_)
  · simp [conj, less_rfl, SO.Live, ren_reg1, renR_reg1, ren_rowL]
  refine run_drawE rfl ?_
  refine goX (Base.all_ok _) 6000 rfl (by simp [conj, Fits_i64, isBo4, isPt25, isMp43, isMp44, isSl92, isSl47, isIf20, kinds, rowEqK49, rowEqK82, ieq] <;> decide +kernel) ?_
  refine run_draw0 mixed (fun t => ?_)
  refine run_drawC (M := modeU []) 1 14 rfl named (Base.all_ok _) (sumOk_nil _) [(51, rcN hA 0), (56, rcK hC vB 1)] ⟨rcN_ok _ _, rcK_ok _ _ _, trivial⟩ rfl rfl rfl rfl rfl rfl (by simp [conj, less_rfl, SO.Live, ieq, hA, hB, hC, vA, vB, less_nE, less_nE2] <;> decide +kernel) (fun t => ?_)
  refine run_drawE rfl ?_
  refine goX (Base.all_ok _) 6000 rfl (by simp [conj, Fits_i64, isBo4, isPt25, isMp43, isMp44, isSl92, isSl47, isIf20, kinds, rowEqK49, rowEqK82, ieq] <;> decide +kernel) ?_
  refine run_draw0 mixed (fun t => ?_)
  refine run_drawC (M := modeU []) 1 14 rfl named (Base.all_ok _) (sumOk_nil _) [(80, rcN hA 0), (85, rcK hC vB 1)] ⟨rcN_ok _ _, rcK_ok _ _ _, trivial⟩ rfl rfl rfl rfl rfl rfl (by simp [conj, less_rfl, SO.Live, ieq, hA, hB, hC, vA, vB, less_nE, less_nE2] <;> decide +kernel) (fun t => ?_)
  refine run_drawE rfl ?_
  refine goX (Base.all_ok _) 6000 rfl (by simp [conj, Fits_i64, isBo4, isPt25, isMp43, isMp44, isSl92, isSl47, isIf20, kinds, rowEqK49, rowEqK82, ieq] <;> decide +kernel) ?_
  refine run_draw0 mixed (fun t => ?_)
  refine run_drawC (M := modeU []) 1 7 rfl named (Base.all_ok _) (sumOk_nil _) [(102, rcO2 hC vB 75 85)] ⟨rcO2_ok _ _ keysC _ _, trivial⟩ rfl rfl rfl rfl rfl rfl (by simp [conj, less_rfl, SO.Live, ieq, hA, hB, hC, vA, vB] <;> decide +kernel) (fun t => ?_)
  refine run_chain rfl rfl ?_
  refine goX (Base.all_ok _) 6000 rfl (by simp [conj, Fits_i64, isBo4, isPt25, isMp43, isMp44, isSl92, isSl47, isIf20, kinds, rowEqK49, rowEqK82, ieq] <;> decide +kernel) ?_
  refine run_callC (sorted0_hc (fun _ => false) (fun _ => 0) ⟨List.Pairwise.nil, fun a => by simp⟩) named (Base.all_ok _) [124, 105] rfl rfl rfl rfl (by simp [conj]) (by simp [conj, less_rfl, ieq, hA, hB, hC, vA, vB]) ?_
  rintro ⟨⟩ _
  refine ⟨show 2 ≤ 2 by omega, _, _, _, rfl, rfl, rfl, ?_⟩
  refine goX (Base.all_ok _) 6000 rfl (by simp [conj, Fits_i64, isBo4, isPt25, isMp43, isMp44, isSl92, isSl47, isIf20, kinds, rowEqK49, rowEqK82, ieq] <;> decide +kernel) ?_
  exact fin rfl (by simp [conj]) rfl rfl
end Sx
