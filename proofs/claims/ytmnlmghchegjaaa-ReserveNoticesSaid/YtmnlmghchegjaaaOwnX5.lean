/- Texts of this law, joined: what the functions do. Conditions: as each theorem says. -/
import Derived.Test.YtmnlmghchegjaaaOwnX3
import Derived.Test.YtmnlmghchegjaaaOwnX4
set_option linter.unusedSimpArgs false
set_option linter.unusedVariables false
section
/- More contracts for the examples. Conditions: as each theorem says. -/
namespace Sx
open Go Go.Proofs
set_option maxRecDepth 100000
abbrev st4 (a b c d : Int) (p q : SV) : SV := .agg [.int .u8 a, .int .u8 b, p, q]
theorem hosts1_hc : HC Try.prog 30 [.sq 0 0 0 1 1 .no, .sq 1 0 0 1 1 .no] [] [(0, .row 0 1 1 1 (rowL .u64 [1]) 23), (1, .cells [u64 1] 23)] 2 (fun _ : Unit => True) (fun _ => ⟨.tt, [], 2⟩) := by
  refine hc_of_run Try.func30 rfl (fun B hB hpin => ?_)
  refine goX hB 300 rfl (by simp [conj, Fits_i64] <;> decide +kernel) ?_
  exact run_retC hpin () trivial [0, 1] rfl rfl (by simp [conj]) rfl (by simp [conj, less_rfl, ren_rowL])
def rcHosts (a b : Nat) : RC := ⟨30, [.sq 0 0 0 1 1 .no, .sq 1 0 0 1 1 .no], [], [(0, .row 0 1 1 1 (rowL .u64 [1]) 23), (1, .cells [u64 1] 23)], 2, .tt, [], 2, [a, b]⟩
theorem rcHosts_ok (a b : Nat) : RcOk Try.prog (rcHosts a b) := ⟨hosts1_hc, rfl, Nat.le_refl _⟩
theorem code0_hc : HC Try.prog 16 [.agg [.int .u8 0, .int .u8 0, .ff, .ff], i64 0] [] [] 0 (fun _ : Unit => True) (fun _ => ⟨.tt, [], 0⟩) := by
  refine hc_of_run Try.func16 rfl (fun B hB hpin => ?_)
  refine goX hB 300 rfl (by simp [conj, rowEqK49, kinds]) ?_
  exact run_retC hpin () trivial [] rfl rfl (by simp [conj]) rfl (by simp [conj])
def rcCode0 : RC := ⟨16, [.agg [.int .u8 0, .int .u8 0, .ff, .ff], i64 0], [], [], 0, .tt, [], 0, []⟩
theorem rcCode0_ok : RcOk Try.prog rcCode0 := ⟨code0_hc, rfl, Nat.le_refl _⟩
abbrev rC : SO := .cells [.und, .mp 1, i64 3, u64 2, .int .u32 3, .ff] 46
abbrev mC : SO := .map .u64 hC (.ints .u64 vB)
theorem allow1_hc : HC Try.prog 19 [.ptr 0 0, u64 1, .tt] [] [(0, rC), (1, mC)] 2 (fun _ : Unit => True) (fun _ => ⟨.ff, [], 2⟩) := by
  refine hc_of_run Try.func19 rfl (fun B hB hpin => ?_)
  refine goX hB 300 rfl (by simp [conj, isPt25, isMp44, isBo4, Fits_i64] <;> decide +kernel) ?_
  exact run_retC hpin () trivial [0, 1] rfl rfl (by simp [conj]) rfl (by simp [conj, less_rfl])
theorem allow2_hc : HC Try.prog 19 [.ptr 0 0, u64 2, .tt] [] [(0, rC), (1, mC)] 2 (fun _ : Unit => True) (fun _ => ⟨.tt, [], 2⟩) := by
  refine hc_of_run Try.func19 rfl (fun B hB hpin => ?_)
  refine goX hB 300 rfl (by simp [conj, isPt25, isMp44, isBo4, Fits_i64] <;> decide +kernel) ?_
  exact run_retC hpin () trivial [0, 1] rfl rfl (by simp [conj]) rfl (by simp [conj, less_rfl])
def rcAl (h : Int) (r : SV) (a b : Nat) : RC := ⟨19, [.ptr 0 0, u64 h, .tt], [], [(0, rC), (1, mC)], 2, r, [], 2, [a, b]⟩
theorem holds2_hc : HC Try.prog 55 [.ptr 0 0, u64 2] [] [(0, rC), (1, mC)] 2 (fun _ : Unit => True) (fun _ => ⟨.tt, [], 2⟩) := by
  refine hc_of_run Try.func55 rfl (fun B hB hpin => ?_)
  refine goX hB 300 rfl (by simp [conj, isPt25, isMp44, isBo4, Fits_i64] <;> decide +kernel) ?_
  exact run_retC hpin () trivial [0, 1] rfl rfl (by simp [conj]) rfl (by simp [conj, less_rfl])
def rcHo (a b : Nat) : RC := ⟨55, [.ptr 0 0, u64 2], [], [(0, rC), (1, mC)], 2, .tt, [], 2, [a, b]⟩
/-- The registration of the examples. -/
def reg1 : Nat → Nat → SV := fun _ k => match k with
  | 0 => u64 2
  | 1 => u64 20
  | _ => .tt
theorem ren_reg1 (nx : Nat) (sg : List Nat) (i k : Nat) : ren nx sg (reg1 i k) = reg1 i k := by
  unfold reg1; split <;> simp only [ren, renF, id]
theorem renR_reg1 (nx : Nat) (sg : List Nat) : renR nx sg reg1 = reg1 := by funext i k; exact ren_reg1 nx sg i k
theorem report_hc : HC Try.prog 24 [.ptr 0 0] [(1, mC)] [(0, rC)] 2 (fun _ : Unit => True) (fun _ => ⟨.agg [.int .u32 3, i64 3, .ff, .sq 2 0 0 3 1 .own], [(1, mC), (2, .row 0 1 1 3 reg1 82)], 3⟩) := by
  refine hc_of_run Try.func24 rfl (fun B hB hpin => ?_)
  refine goX hB 900 rfl (by simp [conj, isPt25, isMp44, isBo4, Fits_i64] <;> decide +kernel) ?_
  refine run_callC (sorted1_hc hC vB 2 keysC) named hB [19, 1] rfl rfl rfl rfl (by simp [conj]) (by simp [conj, less_rfl]) ?_
  rintro ⟨⟩ _
  refine ⟨show 2 ≤ 3 by omega, _, _, _, rfl, rfl, rfl, ?_⟩
  refine goX hB 900 rfl (by simp [conj, isPt25, isMp44, isBo4, Fits_i64] <;> decide +kernel) ?_
  refine run_draw0 mixed (fun t => ?_)
  refine run_drawC (M := modeU []) 1 17 rfl named hB (sumOk_nil _) [(34, rcHo 0 1)] ⟨⟨holds2_hc, rfl, Nat.le_refl _⟩, trivial⟩ rfl rfl rfl rfl rfl rfl ?_ (fun t => ?_)
  · simp [conj, less_rfl, SO.Live, isPt25, isMp44, Fits_i64] <;> decide +kernel
  refine run_drawE rfl ?_
  refine goX hB 900 rfl (by simp [conj, isPt25, isMp44, isBo4, Fits_i64] <;> decide +kernel) ?_
  refine run_retC hpin () trivial [0, 1, 37] rfl rfl (by simp [conj]) rfl ?_
  simp [conj, less_rfl]
  rintro i k rfl hk
  match k, hk with
  | 0, _ => exact Less.rfl
  | 1, _ => exact Less.rfl
  | 2, _ => exact Less.rfl
theorem same_hc : HC Try.prog 23 [.agg [.int .u32 3, i64 3, .ff, .sq 0 0 0 3 1 .no], .agg [.int .u32 3, i64 3, .ff, .sq 1 0 0 3 1 .no]] [] [(0, .row 0 1 1 3 reg1 82), (1, .cells [u64 2, u64 20, .tt] 82)] 2 (fun _ : Unit => True) (fun _ => ⟨.tt, [], 2⟩) := by
  refine hc_of_run Try.func23 rfl (fun B hB hpin => ?_)
  refine goX hB 900 rfl (by simp [conj, isBo4, rowEqK82, kinds, Fits_i64] <;> decide +kernel) ?_
  exact run_retC hpin () trivial [0, 1] rfl rfl (by simp [conj]) rfl (by simp [conj, less_rfl, ren_reg1])
def rcRep (a b : Nat) : RC := ⟨24, [.ptr 0 0], [(1, mC)], [(0, rC)], 2, .agg [.int .u32 3, i64 3, .ff, .sq 2 0 0 3 1 .own], [(1, mC), (2, .row 0 1 1 3 reg1 82)], 3, [a, b]⟩
def rcSm (a b : Nat) : RC := ⟨23, [.agg [.int .u32 3, i64 3, .ff, .sq 0 0 0 3 1 .no], .agg [.int .u32 3, i64 3, .ff, .sq 1 0 0 3 1 .no]], [], [(0, .row 0 1 1 3 reg1 82), (1, .cells [u64 2, u64 20, .tt] 82)], 2, .tt, [], 2, [a, b]⟩
theorem less_nil (i j off off' s s' : Nat) (ap : Ap) : Less (.sq i off s 1 0 .no) (.sq j off' s' 1 0 ap) := by
  refine fun β v h => ?_
  obtain ⟨base, room, h1, h2, _, _, _⟩ := h
  exact ⟨base, room, h1, h2, fun h => (by cases h), fun h => (by cases h), fun h => absurd h (Nat.lt_irrefl 0)⟩
theorem less_nE (nx : Nat) (sg : List Nat) (a b : Int) : Less (ren nx sg (nE a)) (nE b) := by
  simp only [nE, ren, renF, natF_eq]
  exact less_nil _ _ _ _ _ _ _
theorem less_nE2 (nx nx' : Nat) (sg sg' : List Nat) (a b : Int) : Less (ren nx sg (nE a)) (ren nx' sg' (nE b)) := by
  simp only [nE, ren, renF, natF_eq]
  exact less_nil _ _ _ _ _ _ _
end Sx
end
section
/- The examples of chapter 29. Conditions: as each theorem says. -/
namespace Sx
open Go Go.Proofs
set_option maxRecDepth 100000
set_option maxHeartbeats 400000000 in
theorem works_pure : Pure Try.prog 8 [] .tt := by
  refine pure_of_run Try.func8 rfl (fun w' => ?_)
  refine goX (Base.all_ok _) 6000 rfl (by simp [conj, Fits_i64, isBo4, isPt25, isMp43, isMp44, isSl92, isSl47, isIf20, kinds, rowEqK49, rowEqK82, ieq] <;> decide +kernel) ?_
  refine run_draw0 mixed (fun t => ?_)
  refine run_drawC (M := modeU []) 1 14 rfl named (Base.all_ok _) (sumOk_nil _) [(15, rcN (fun _ => false) 0), (20, rcK (fun _ => false) (fun _ => 0) 1)] ⟨rcN_ok _ _, rcK_ok _ _ _, trivial⟩ rfl rfl rfl rfl rfl rfl (by simp [conj, less_rfl, SO.Live, ieq, hA, hB, hC, vA, vB, less_nE, less_nE2] <;> decide +kernel) (fun t => ?_)
  refine run_drawE rfl ?_
  refine goX (Base.all_ok _) 6000 rfl (by simp [conj, Fits_i64, isBo4, isPt25, isMp43, isMp44, isSl92, isSl47, isIf20, kinds, rowEqK49, rowEqK82, ieq] <;> decide +kernel) ?_
  refine run_mlen [] (by simp) (fun a => by simp [ieq, eq_comm]) rfl rfl (by simp [conj]) rfl rfl ?_
  refine goX (Base.all_ok _) 6000 rfl (by simp [conj, Fits_i64, isBo4, isPt25, isMp43, isMp44, isSl92, isSl47, isIf20, kinds, rowEqK49, rowEqK82, ieq] <;> decide +kernel) ?_
  refine run_draw0 mixed (fun t => ?_)
  refine run_drawC (M := modeU []) 1 14 rfl named (Base.all_ok _) (sumOk_nil _) [(69, rcN (fun _ => false) 15), (74, rcK hA vA 20)] ⟨rcN_ok _ _, rcK_ok _ _ _, trivial⟩ rfl rfl rfl rfl rfl rfl (by simp [conj, less_rfl, SO.Live, ieq, hA, hB, hC, vA, vB, less_nE, less_nE2] <;> decide +kernel) (fun t => ?_)
  refine run_drawE rfl ?_
  refine goX (Base.all_ok _) 6000 rfl (by simp [conj, Fits_i64, isBo4, isPt25, isMp43, isMp44, isSl92, isSl47, isIf20, kinds, rowEqK49, rowEqK82, ieq] <;> decide +kernel) ?_
  refine run_draw0 mixed (fun t => ?_)
  refine run_drawC (M := modeU []) 1 14 rfl named (Base.all_ok _) (sumOk_nil _) [(115, rcN (fun _ => false) 15), (120, rcK hA vA 20)] ⟨rcN_ok _ _, rcK_ok _ _ _, trivial⟩ rfl rfl rfl rfl rfl rfl (by simp [conj, less_rfl, SO.Live, ieq, hA, hB, hC, vA, vB, less_nE, less_nE2] <;> decide +kernel) (fun t => ?_)
  refine run_drawE rfl ?_
  refine goX (Base.all_ok _) 6000 rfl (by simp [conj, Fits_i64, isBo4, isPt25, isMp43, isMp44, isSl92, isSl47, isIf20, kinds, rowEqK49, rowEqK82, ieq] <;> decide +kernel) ?_
  refine run_mlen [1] (by simp) (fun a => by simp [ieq, eq_comm]) rfl rfl (by simp [conj]) rfl rfl ?_
  refine goX (Base.all_ok _) 6000 rfl (by simp [conj, Fits_i64, isBo4, isPt25, isMp43, isMp44, isSl92, isSl47, isIf20, kinds, rowEqK49, rowEqK82, ieq] <;> decide +kernel) ?_
  refine run_draw0 mixed (fun t => ?_)
  refine run_drawC (M := modeU []) 1 14 rfl named (Base.all_ok _) (sumOk_nil _) [(169, rcN (fun _ => false) 115), (174, rcK hB vB 120)] ⟨rcN_ok _ _, rcK_ok _ _ _, trivial⟩ rfl rfl rfl rfl rfl rfl (by simp [conj, less_rfl, SO.Live, ieq, hA, hB, hC, vA, vB, less_nE, less_nE2] <;> decide +kernel) (fun t => ?_)
  refine run_drawE rfl ?_
  refine goW (Base.all_ok _) [(16, 14)] 6000 rfl (by simp [conj, Fits_i64, isBo4, isPt25, isMp43, isMp44, isSl92, isSl47, isIf20, kinds, rowEqK49, rowEqK82, ieq] <;> decide +kernel) ?_
  refine run_tt (by decide +kernel) ?_
  refine run_toK (pin0 w') [(14, .tt)] [[(28, .ff), (1, .ptr 2 0), (0, .ff)]] [(2, .cells [.mp 0, .mp 1, i64 0, u64 0, .int .u32 2, .ff] 46), (0, ntc (fun _ => false)), (1, .map .u64 hB (.ints .u64 vB))] [115, 120, 2] rfl rfl ?_ ?_
  · simp [conj, less_rfl, ieq, hA, hB, vA, vB, ren, renF] <;> decide +kernel
  refine goX (Base.all_ok _) 6000 rfl (by simp [conj, Fits_i64, isBo4, isPt25, isMp43, isMp44, isSl92, isSl47, isIf20, kinds, rowEqK49, rowEqK82, ieq] <;> decide +kernel) ?_
  refine run_draw0 mixed (fun t => ?_)
  refine run_drawC (M := modeU []) 1 14 rfl named (Base.all_ok _) (sumOk_nil _) [(16, rcN (fun _ => false) 0), (21, rcK hB vB 1)] ⟨rcN_ok _ _, rcK_ok _ _ _, trivial⟩ rfl rfl rfl rfl rfl rfl (by simp [conj, less_rfl, SO.Live, ieq, hA, hB, hC, vA, vB, less_nE, less_nE2] <;> decide +kernel) (fun t => ?_)
  refine run_drawE rfl ?_
  refine goX (Base.all_ok _) 6000 rfl (by simp [conj, Fits_i64, isBo4, isPt25, isMp43, isMp44, isSl92, isSl47, isIf20, kinds, rowEqK49, rowEqK82, ieq] <;> decide +kernel) ?_
  refine run_draw0 mixed (fun t => ?_)
  refine run_drawC (M := modeU []) 1 14 rfl named (Base.all_ok _) (sumOk_nil _) [(45, rcN (fun _ => false) 16), (50, rcK hB vB 21)] ⟨rcN_ok _ _, rcK_ok _ _ _, trivial⟩ rfl rfl rfl rfl rfl rfl (by simp [conj, less_rfl, SO.Live, ieq, hA, hB, hC, vA, vB, less_nE, less_nE2] <;> decide +kernel) (fun t => ?_)
  refine run_drawE rfl ?_
  refine goW (Base.all_ok _) [(16, 6)] 6000 rfl (by simp [conj, Fits_i64, isBo4, isPt25, isMp43, isMp44, isSl92, isSl47, isIf20, kinds, rowEqK49, rowEqK82, ieq] <;> decide +kernel) ?_
  refine run_tt (by decide +kernel) ?_
  refine run_toK (pin0 w') [(6, .tt), (4, .ff), (2, .ptr 3 0)] [[(5, .ptr 4 0), (1, .ptr 2 0), (0, .ff)]] [(2, .cells [.mp 0, .mp 1, i64 1, u64 1, .int .u32 2, .ff] 46), (0, ntc (fun _ => false)), (1, .map .u64 hB (.ints .u64 vB)), (3, .cells [.int .u8 0, .int .u8 0, .ff, .ff] 49), (4, .cells [.int .u8 0, .int .u8 131, .ff, .tt] 49)] [16, 21, 2, 62, 61] rfl rfl ?_ ?_
  · simp [conj, less_rfl, ieq, hA, hB, vA, vB, ren, renF] <;> decide +kernel
  refine goX (Base.all_ok _) 6000 rfl (by simp [conj, Fits_i64, isBo4, isPt25, isMp43, isMp44, isSl92, isSl47, isIf20, kinds, rowEqK49, rowEqK82, ieq] <;> decide +kernel) ?_
  refine run_draw0 mixed (fun t => ?_)
  refine run_drawC (M := modeU []) 1 14 rfl named (Base.all_ok _) (sumOk_nil _) [(19, rcN (fun _ => false) 0), (24, rcK hB vB 1)] ⟨rcN_ok _ _, rcK_ok _ _ _, trivial⟩ rfl rfl rfl rfl rfl rfl (by simp [conj, less_rfl, SO.Live, ieq, hA, hB, hC, vA, vB, less_nE, less_nE2] <;> decide +kernel) (fun t => ?_)
  refine run_drawE rfl ?_
  refine goX (Base.all_ok _) 6000 rfl (by simp [conj, Fits_i64, isBo4, isPt25, isMp43, isMp44, isSl92, isSl47, isIf20, kinds, rowEqK49, rowEqK82, ieq] <;> decide +kernel) ?_
  refine run_draw0 mixed (fun t => ?_)
  refine run_drawC (M := modeU []) 1 31 rfl named (Base.all_ok _) (sumOk_nil _) [(42, rcSh 1 14)] ⟨rcSh_ok _ _, trivial⟩ rfl rfl rfl rfl rfl rfl (by simp [conj, less_rfl, SO.Live, ieq, hA, hB, hC, vA, vB] <;> decide +kernel) (fun t => ?_)
  refine run_drawE rfl ?_
  refine goX (Base.all_ok _) 6000 rfl (by simp [conj, Fits_i64, isBo4, isPt25, isMp43, isMp44, isSl92, isSl47, isIf20, kinds, rowEqK49, rowEqK82, ieq] <;> decide +kernel) ?_
  refine run_callC (sorted2_hc hB vB keysB) named (Base.all_ok _) [64, 24] rfl rfl rfl rfl (by simp [conj]) (by simp [conj, less_rfl, ieq, hA, hB, hC, vA, vB]) ?_
  rintro ⟨⟩ _
  refine ⟨show 2 ≤ 3 by omega, _, _, _, rfl, rfl, rfl, ?_⟩
  refine goX (Base.all_ok _) 6000 rfl (by simp [conj, Fits_i64, isBo4, isPt25, isMp43, isMp44, isSl92, isSl47, isIf20, kinds, rowEqK49, rowEqK82, ieq] <;> decide +kernel) ?_
  refine run_mdel rfl rfl (by simp [conj]) rfl rfl rfl ?_
  refine goX (Base.all_ok _) 6000 rfl (by simp [conj, Fits_i64, isBo4, isPt25, isMp43, isMp44, isSl92, isSl47, isIf20, kinds, rowEqK49, rowEqK82, ieq] <;> decide +kernel) ?_
  refine run_draw0 mixed (fun t => ?_)
  refine run_drawC (M := modeU []) 1 7 rfl named (Base.all_ok _) (sumOk_nil _) [(120, rcO2 hC vB 14 24)] ⟨rcO2_ok _ _ keysC _ _, trivial⟩ rfl rfl rfl rfl rfl rfl (by simp [conj, less_rfl, SO.Live, ieq, hA, hB, hC, vA, vB] <;> decide +kernel) (fun t => ?_)
  refine run_chain rfl rfl ?_
  refine goX (Base.all_ok _) 6000 rfl (by simp [conj, Fits_i64, isBo4, isPt25, isMp43, isMp44, isSl92, isSl47, isIf20, kinds, rowEqK49, rowEqK82, ieq] <;> decide +kernel) ?_
  refine run_toK (pin0 w') [(10, .ptr 4 0), (9, .tt), (8, i64 1), (7, .ptr 3 0), (6, .sq 6 0 0 1 1 .no), (1, .ptr 2 0), (0, .ff)] [] [(0, ntc hA), (1, mC), (2, .cells [.mp 0, .mp 1, i64 3, u64 2, .int .u32 3, .ff] 46), (3, .cells [.int .u8 0, .int .u8 0, .ff, .ff] 49), (4, .cells [.int .u32 3, i64 3, .ff, .sq 5 0 0 3 1 .no] 67), (5, .cells [u64 2, u64 20, .tt] 82), (6, .row 0 1 1 1 (rowL .u64 [1]) 23)] [19, 24, 2, 126, 128, 127, 84] rfl rfl ?_ ?_
  · simp [conj, less_rfl, ieq, hA, hB, hC, vA, vB, ren, renF]
    refine ⟨?_, by decide +kernel, Less.rfl⟩
    simp only [natF_eq]
    exact less_nil _ _ _ _ _ _ _
  refine run_draw0 mixed (fun t => ?_)
  refine run_drawC (M := modeU []) 1 33 rfl named (Base.all_ok _) (sumOk_nil _) [(9, rcHosts 6 8), (13, rcCode0), (26, rcAl 1 .ff 2 1), (30, rcAl 2 .tt 2 1), (35, rcRep 2 1), (37, rcSm 35 5)] ⟨rcHosts_ok _ _, rcCode0_ok, ⟨allow1_hc, rfl, Nat.le_refl _⟩, ⟨allow2_hc, rfl, Nat.le_refl _⟩, ⟨report_hc, rfl, by decide⟩, ⟨same_hc, rfl, Nat.le_refl _⟩, trivial⟩ rfl rfl rfl rfl rfl rfl ?_ (fun t => ?_)
  · simp [conj, less_rfl, SO.Live, ren_reg1, renR_reg1, ren_rowL]
  refine run_drawE rfl ?_
  refine goX (Base.all_ok _) 6000 rfl (by simp [conj, Fits_i64, isBo4, isPt25, isMp43, isMp44, isSl92, isSl47, isIf20, kinds, rowEqK49, rowEqK82, ieq] <;> decide +kernel) ?_
  refine run_draw0 mixed (fun t => ?_)
  refine run_drawC (M := modeU []) 1 14 rfl named (Base.all_ok _) (sumOk_nil _) [(51, rcN hA 0), (56, rcK hC vB 1)] ⟨rcN_ok _ _, rcK_ok _ _ _, trivial⟩ rfl rfl rfl rfl rfl rfl (by simp [conj, less_rfl, SO.Live, ieq, hA, hB, hC, vA, vB, less_nE, less_nE2] <;> decide +kernel) (fun t => ?_)
  refine run_drawE rfl ?_
  refine goX (Base.all_ok _) 6000 rfl (by simp [conj, Fits_i64, isBo4, isPt25, isMp43, isMp44, isSl92, isSl47, isIf20, kinds, rowEqK49, rowEqK82, ieq] <;> decide +kernel) ?_
  refine run_draw0 mixed (fun t => ?_)
  refine run_drawC (M := modeU []) 1 14 rfl named (Base.all_ok _) (sumOk_nil _) [(80, rcN hA 0), (85, rcK hC vB 1)] ⟨rcN_ok _ _, rcK_ok _ _ _, trivial⟩ rfl rfl rfl rfl rfl rfl (by simp [conj, less_rfl, SO.Live, ieq, hA, hB, hC, vA, vB, less_nE, less_nE2] <;> decide +kernel) (fun t => ?_)
  refine run_drawE rfl ?_
  refine goX (Base.all_ok _) 6000 rfl (by simp [conj, Fits_i64, isBo4, isPt25, isMp43, isMp44, isSl92, isSl47, isIf20, kinds, rowEqK49, rowEqK82, ieq] <;> decide +kernel) ?_
  refine run_draw0 mixed (fun t => ?_)
  refine run_drawC (M := modeU []) 1 7 rfl named (Base.all_ok _) (sumOk_nil _) [(102, rcO2 hC vB 75 85)] ⟨rcO2_ok _ _ keysC _ _, trivial⟩ rfl rfl rfl rfl rfl rfl (by simp [conj, less_rfl, SO.Live, ieq, hA, hB, hC, vA, vB] <;> decide +kernel) (fun t => ?_)
  refine run_chain rfl rfl ?_
  refine goX (Base.all_ok _) 6000 rfl (by simp [conj, Fits_i64, isBo4, isPt25, isMp43, isMp44, isSl92, isSl47, isIf20, kinds, rowEqK49, rowEqK82, ieq] <;> decide +kernel) ?_
  refine run_callC (sorted0_hc (fun _ => false) (fun _ => 0) ⟨List.Pairwise.nil, fun a => by simp⟩) named (Base.all_ok _) [124, 105] rfl rfl rfl rfl (by simp [conj]) (by simp [conj, less_rfl, ieq, hA, hB, hC, vA, vB]) ?_
  rintro ⟨⟩ _
  refine ⟨show 2 ≤ 2 by omega, _, _, _, rfl, rfl, rfl, ?_⟩
  refine goX (Base.all_ok _) 6000 rfl (by simp [conj, Fits_i64, isBo4, isPt25, isMp43, isMp44, isSl92, isSl47, isIf20, kinds, rowEqK49, rowEqK82, ieq] <;> decide +kernel) ?_
  exact fin rfl (by simp [conj]) rfl rfl
end Sx
end
section
/- What ReserveNone computes: true. Conditions: as each theorem says. -/
namespace Sx
open Go Go.Proofs
set_option maxRecDepth 100000
def FWorks : List SV → Option (List Prop × SV)
  | [] => some ([], .tt)
  | _ => none
theorem FWorks_ok : PureOk Try.prog 8 FWorks := by
  intro xs cs r h hc
  unfold FWorks at h
  split at h <;> first | exact (none_ne h).elim | skip
  simp only [Option.some.injEq, Prod.mk.injEq] at h; obtain ⟨rfl, rfl⟩ := h
  exact ⟨rfl, works_pure⟩
def sW : SumL := [(8, FWorks)]
theorem sW_ok : SumOk Try.prog (sumOf sW) := sumOk_cons FWorks_ok (sumOk_nil _)
end Sx
end
section
/- Register: a new host; one host too many; a host that is registered. Conditions: as each theorem says. -/
namespace Sx
open Go Go.Proofs
set_option maxRecDepth 100000
abbrev rS (n k : Nat) (G : Int) : SO := .cells [.mp n, .mp k, i64 0, u64 0, .int .u32 G, .ff] 46
abbrev nN : SO := ntc (fun _ => false)
abbrev sOk : SV := .agg [.int .u8 0, .int .u8 0, .ff, .ff]
abbrev hAdd (h : Int → Bool) (a : Int) : Int → Bool := fun x => ieq x a || h x
abbrev vAdd (v : Int → Int) (a key : Int) : Int → Int := fun x => bif ieq x a then key else v x
end Sx
end
section
/- Package reserve: Register at any reservation. Conditions: as each theorem says. -/
namespace Sx
open Go Go.Proofs
set_option maxRecDepth 100000
set_option pp.deepTerms true
set_option pp.maxSteps 10000000
/-- A reservation: the keys, the type, the holder, the generation, whether it persists, the notices. -/
structure RSt where
  h : Int → Bool
  v : Int → Int
  T : Int
  H : Int
  G : Int
  p : Bool
  N : Int → List Int
abbrev hpS (s : RSt) (z : NSt) : Hp := [(0, rC0 1 2 s.T s.H s.G s.p), (1, nmap z.h z.V), (2, kmap s.h s.v)]
abbrev hpT (s : RSt) (z : NSt) : Hp := [(0, rC0 3 4 s.T s.H s.G s.p), (3, nmap z.h z.V), (4, kmap s.h s.v)]
/-- The status of a code. -/
abbrev stC (c : Int) : SV := .agg [.int .u8 0, .int .u8 c, .ff, .sb (!decide (c = 0))]
def gen1 (G : Int) : Int := IntKind.u32.wrap (G + 1)
/-- A removal. -/
def remS (s : RSt) (l : List Int) (a b : Int) : RSt :=
  { s with h := hDel s.h a, T := if rmE s.h s.T s.H l a = true then 0 else s.T, H := if rmE s.h s.T s.H l a = true then 0 else s.H, N := if rmE s.h s.T s.H l a = true then relN s.N s.T b l else s.N }
/-- Register: the code and the reservation after it. -/
def regO (s : RSt) (l : List Int) (host a key cur : Int) (ig : Bool) : Int × RSt :=
  if host = 0 ∨ ¬ (0 ≤ a ∧ a ≤ 2) then (2, s)
  else if a = 0 then (if key = 0 then (2, s) else if s.h host = true then (if s.v host = key then (0, s) else (131, s)) else if 128 ≤ l.length then (21, s) else (0, { s with h := hAdd s.h host, v := vAdd s.v host key, G := gen1 s.G }))
  else if a = 1 then (if (s.h host && (ig || decide (s.v host = cur))) = true then (0, { remS s l host host with G := gen1 s.G }) else (131, s))
  else (if key = 0 then (2, s) else if (s.h host && (ig || decide (s.v host = cur))) = true then (0, { s with h := hAdd s.h host, v := vAdd s.v host key, G := gen1 s.G }) else (131, s))
abbrev cfX : List Nat := [37, 38, 81, 87, 85, 52, 53, 56, 73, 75, 76]
def modeX : Mode := { st := true, unr := true, inl := fun f => !hasN f cfX, sum := sumOf [], keep := fun _ => none }
theorem goZ {B : Base} (hB : B.ok) {ro : Hp} {f : FuncId} {R : Ending → World → Prop} (S : List (Nat × Nat)) (m : Nat) {cs : List Prop} {c c' : Cfg} (h : execY Try.prog modeX ro S m [] c = (cs, c')) (hc : conj cs)
    (hr : Run Try.prog ro B f R c') : Run Try.prog ro B f R c := run_goY mixed named hB (sumOk_nil _) S m h hc hr
theorem nkn {b ig : Bool} {x y : Int} : (!(b && (ig || decide ((bif b then x else 0) = y)))) = !(b && (ig || decide (x = y))) := by cases b <;> simp
abbrev RegC (K : Kn) (s : RSt) (z0 : NSt) (host a key cur : Int) (ig : Bool) (o : Int × RSt) : Prop :=
  HCX Try.prog K M0 17 [.ptr 0 0, u64 host, i64 a, u64 key, u64 cur, .sb ig] (hpS s z0) [] 3 (fun (z : NSt) K' => NOK K' z.h z.V o.2.N) (fun z => ⟨stC o.1, hpT o.2 z, 5⟩)
theorem goQ {B : Base} (hB : B.ok) {ro : Hp} {f : FuncId} {R : Ending → World → Prop} {cs0 cs : List Prop} {c c0 c' : Cfg} (h0 : stepD Try.prog modeX ro c = some (cs0, c0)) (h : execG Try.prog modeX ro 400 cs0 c0 = (cs, c')) (hc : conj cs)
    (hr : Run Try.prog ro B f R c') : Run Try.prog ro B f R c := run_go mixed named hB (sumOk_nil _) 400 h0 h hc hr
set_option maxHeartbeats 4000000 in
theorem reg_zero (K : Kn) (s : RSt) (z0 : NSt) (hNK : NOK K z0.h z0.V s.N) (host a key cur : Int) (ig : Bool) (ha : host = 0) : RegC K s z0 host a key cur ig (2, s) := by
  obtain ⟨hN, V⟩ := z0
  obtain ⟨h, v, T, H, G, p, N⟩ := s
  refine hcx_of_run Try.func17 rfl (fun B hB hK hpin => ?_)
  have hF0 : Fz B K M0 B K := .refl hB hK
  refine goZ hB [(40, 13)] 3000 rfl (by simp [conj, Fits_i64, isBo4, isPt25, isMp43, isMp44, isIf20]) ?_
  refine run_ff (by simpa using ha) ?_
  refine goZ hB [] 3000 rfl (by simp [conj, Fits_i64, isBo4, isPt25, isMp43, isMp44, isIf20]) ?_
  refine run_retF hF0 hpin (⟨hN, V⟩ : NSt) hNK [0, 1, 2, 1, 2] rfl rfl (by simp [conj]) rfl ?_
  simp [conj, less_rfl, ren_val, gen1]
set_option maxHeartbeats 4000000 in
theorem reg_act (K : Kn) (s : RSt) (z0 : NSt) (hNK : NOK K z0.h z0.V s.N) (host a key cur : Int) (ig : Bool) (ha : host ≠ 0) (hq : ¬ (0 ≤ a ∧ a ≤ 2)) : RegC K s z0 host a key cur ig (2, s) := by
  obtain ⟨hN, V⟩ := z0
  obtain ⟨h, v, T, H, G, p, N⟩ := s
  refine hcx_of_run Try.func17 rfl (fun B hB hK hpin => ?_)
  have hF0 : Fz B K M0 B K := .refl hB hK
  refine goZ hB [(40, 13)] 3000 rfl (by simp [conj, Fits_i64, isBo4, isPt25, isMp43, isMp44, isIf20]) ?_
  refine run_tt (by simpa using ha) ?_
  refine goZ hB [] 3000 rfl (by simp [conj, Fits_i64, isBo4, isPt25, isMp43, isMp44, isIf20]) ?_
  refine run_draw0 mixed (fun t => ?_)
  refine run_drawC (M := modeX) 1 14 rfl named hB (sumOk_nil _) [(15, rcV hN V 1), (20, rcK h v 2)] ⟨rcV_ok _ _ _, rcK_ok _ _ _, trivial⟩ rfl rfl rfl rfl rfl rfl (by simp [conj, less_rfl, SO.Live, ren_val]) (fun t => ?_)
  refine run_drawE rfl ?_
  refine goZ hB [(47, 9)] 3000 rfl (by simp [conj, Fits_i64, isBo4, isPt25, isMp43, isMp44, isIf20]) ?_
  refine goQ hB rfl rfl (by simp [conj, Fits_i64, isBo4, isPt25, isMp43, isMp44, isIf20] <;> first | omega | exact fun a b => ⟨a, b⟩ | skip) ?_
  refine run_tt (by simp; omega) ?_
  refine goZ hB [] 3000 rfl (by simp [conj, Fits_i64, isBo4, isPt25, isMp43, isMp44, isIf20]) ?_
  refine run_retF hF0 hpin (⟨hN, V⟩ : NSt) hNK [0, 1, 2, 1, 2] rfl rfl (by simp [conj]) rfl ?_
  simp [conj, less_rfl, ren_val, gen1]
set_option maxHeartbeats 4000000 in
theorem reg_key0 (K : Kn) (s : RSt) (z0 : NSt) (hNK : NOK K z0.h z0.V s.N) (host a key cur : Int) (ig : Bool) (ha : host ≠ 0) (hq : a = 0) (hk : key = 0) : RegC K s z0 host a key cur ig (2, s) := by
  obtain ⟨hN, V⟩ := z0
  obtain ⟨h, v, T, H, G, p, N⟩ := s
  refine hcx_of_run Try.func17 rfl (fun B hB hK hpin => ?_)
  have hF0 : Fz B K M0 B K := .refl hB hK
  subst hq
  refine goZ hB [(40, 13)] 3000 rfl (by simp [conj, Fits_i64, isBo4, isPt25, isMp43, isMp44, isIf20]) ?_
  refine run_tt (by simpa using ha) ?_
  refine goZ hB [] 3000 rfl (by simp [conj, Fits_i64, isBo4, isPt25, isMp43, isMp44, isIf20]) ?_
  refine run_draw0 mixed (fun t => ?_)
  refine run_drawC (M := modeX) 1 14 rfl named hB (sumOk_nil _) [(15, rcV hN V 1), (20, rcK h v 2)] ⟨rcV_ok _ _ _, rcK_ok _ _ _, trivial⟩ rfl rfl rfl rfl rfl rfl (by simp [conj, less_rfl, SO.Live, ren_val]) (fun t => ?_)
  refine run_drawE rfl ?_
  refine goZ hB [(48, 8)] 3000 rfl (by simp [conj, Fits_i64, isBo4, isPt25, isMp43, isMp44, isIf20]) ?_
  refine run_ff (by simpa using hk) ?_
  refine goZ hB [] 3000 rfl (by simp [conj, Fits_i64, isBo4, isPt25, isMp43, isMp44, isIf20]) ?_
  refine run_retF hF0 hpin (⟨hN, V⟩ : NSt) hNK [0, 1, 2, 1, 2] rfl rfl (by simp [conj]) rfl ?_
  simp [conj, less_rfl, ren_val, gen1]
set_option maxHeartbeats 4000000 in
theorem reg_same (K : Kn) (s : RSt) (z0 : NSt) (hNK : NOK K z0.h z0.V s.N) (host a key cur : Int) (ig : Bool) (ha : host ≠ 0) (hq : a = 0) (hk : key ≠ 0) (hh : s.h host = true) (hv : s.v host = key) : RegC K s z0 host a key cur ig (0, s) := by
  obtain ⟨hN, V⟩ := z0
  obtain ⟨h, v, T, H, G, p, N⟩ := s
  refine hcx_of_run Try.func17 rfl (fun B hB hK hpin => ?_)
  have hF0 : Fz B K M0 B K := .refl hB hK
  subst hq
  refine goZ hB [(40, 13)] 3000 rfl (by simp [conj, Fits_i64, isBo4, isPt25, isMp43, isMp44, isIf20]) ?_
  refine run_tt (by simpa using ha) ?_
  refine goZ hB [] 3000 rfl (by simp [conj, Fits_i64, isBo4, isPt25, isMp43, isMp44, isIf20]) ?_
  refine run_draw0 mixed (fun t => ?_)
  refine run_drawC (M := modeX) 1 14 rfl named hB (sumOk_nil _) [(15, rcV hN V 1), (20, rcK h v 2)] ⟨rcV_ok _ _ _, rcK_ok _ _ _, trivial⟩ rfl rfl rfl rfl rfl rfl (by simp [conj, less_rfl, SO.Live, ren_val]) (fun t => ?_)
  refine run_drawE rfl ?_
  refine goZ hB [(48, 8)] 3000 rfl (by simp [conj, Fits_i64, isBo4, isPt25, isMp43, isMp44, isIf20]) ?_
  refine run_tt (by simpa using hk) ?_
  refine goZ hB [(48, 5)] 3000 rfl (by simp [conj, Fits_i64, isBo4, isPt25, isMp43, isMp44, isIf20]) ?_
  refine run_tt (by simpa using hh) ?_
  refine goZ hB [(48, 24)] 3000 rfl (by simp [conj, Fits_i64, isBo4, isPt25, isMp43, isMp44, isIf20]) ?_
  refine run_tt (by have hh : h host = true := hh; have hv : v host = key := hv; simp [hh, hv]) ?_
  refine goZ hB [] 3000 rfl (by simp [conj, Fits_i64, isBo4, isPt25, isMp43, isMp44, isIf20]) ?_
  refine run_retF hF0 hpin (⟨hN, V⟩ : NSt) hNK [0, 1, 2, 15, 20] rfl rfl (by simp [conj]) rfl ?_
  simp [conj, less_rfl, ren_val, gen1]
set_option maxHeartbeats 4000000 in
theorem reg_conf (K : Kn) (s : RSt) (z0 : NSt) (hNK : NOK K z0.h z0.V s.N) (host a key cur : Int) (ig : Bool) (ha : host ≠ 0) (hq : a = 0) (hk : key ≠ 0) (hh : s.h host = true) (hv : s.v host ≠ key) : RegC K s z0 host a key cur ig (131, s) := by
  obtain ⟨hN, V⟩ := z0
  obtain ⟨h, v, T, H, G, p, N⟩ := s
  refine hcx_of_run Try.func17 rfl (fun B hB hK hpin => ?_)
  have hF0 : Fz B K M0 B K := .refl hB hK
  subst hq
  refine goZ hB [(40, 13)] 3000 rfl (by simp [conj, Fits_i64, isBo4, isPt25, isMp43, isMp44, isIf20]) ?_
  refine run_tt (by simpa using ha) ?_
  refine goZ hB [] 3000 rfl (by simp [conj, Fits_i64, isBo4, isPt25, isMp43, isMp44, isIf20]) ?_
  refine run_draw0 mixed (fun t => ?_)
  refine run_drawC (M := modeX) 1 14 rfl named hB (sumOk_nil _) [(15, rcV hN V 1), (20, rcK h v 2)] ⟨rcV_ok _ _ _, rcK_ok _ _ _, trivial⟩ rfl rfl rfl rfl rfl rfl (by simp [conj, less_rfl, SO.Live, ren_val]) (fun t => ?_)
  refine run_drawE rfl ?_
  refine goZ hB [(48, 8)] 3000 rfl (by simp [conj, Fits_i64, isBo4, isPt25, isMp43, isMp44, isIf20]) ?_
  refine run_tt (by simpa using hk) ?_
  refine goZ hB [(48, 5)] 3000 rfl (by simp [conj, Fits_i64, isBo4, isPt25, isMp43, isMp44, isIf20]) ?_
  refine run_tt (by simpa using hh) ?_
  refine goZ hB [(48, 24)] 3000 rfl (by simp [conj, Fits_i64, isBo4, isPt25, isMp43, isMp44, isIf20]) ?_
  refine run_ff (by have hh : h host = true := hh; have hv : v host ≠ key := hv; simp [hh, hv]) ?_
  refine goZ hB [] 3000 rfl (by simp [conj, Fits_i64, isBo4, isPt25, isMp43, isMp44, isIf20]) ?_
  refine run_retF hF0 hpin (⟨hN, V⟩ : NSt) hNK [0, 1, 2, 1, 2] rfl rfl (by simp [conj]) rfl ?_
  simp [conj, less_rfl, ren_val, gen1]
set_option maxHeartbeats 4000000 in
theorem reg_full (K : Kn) (s : RSt) (z0 : NSt) (hNK : NOK K z0.h z0.V s.N) (host a key cur : Int) (ig : Bool) (l : List Int) (hkl : KeysOf s.h l) (ha : host ≠ 0) (hq : a = 0) (hk : key ≠ 0) (hh : s.h host = false) (hl : 128 ≤ l.length) : RegC K s z0 host a key cur ig (21, s) := by
  obtain ⟨hN, V⟩ := z0
  obtain ⟨h, v, T, H, G, p, N⟩ := s
  refine hcx_of_run Try.func17 rfl (fun B hB hK hpin => ?_)
  have hF0 : Fz B K M0 B K := .refl hB hK
  subst hq
  refine goZ hB [(40, 13)] 3000 rfl (by simp [conj, Fits_i64, isBo4, isPt25, isMp43, isMp44, isIf20]) ?_
  refine run_tt (by simpa using ha) ?_
  refine goZ hB [] 3000 rfl (by simp [conj, Fits_i64, isBo4, isPt25, isMp43, isMp44, isIf20]) ?_
  refine run_draw0 mixed (fun t => ?_)
  refine run_drawC (M := modeX) 1 14 rfl named hB (sumOk_nil _) [(15, rcV hN V 1), (20, rcK h v 2)] ⟨rcV_ok _ _ _, rcK_ok _ _ _, trivial⟩ rfl rfl rfl rfl rfl rfl (by simp [conj, less_rfl, SO.Live, ren_val]) (fun t => ?_)
  refine run_drawE rfl ?_
  refine goZ hB [(48, 8)] 3000 rfl (by simp [conj, Fits_i64, isBo4, isPt25, isMp43, isMp44, isIf20]) ?_
  refine run_tt (by simpa using hk) ?_
  refine goZ hB [(48, 5)] 3000 rfl (by simp [conj, Fits_i64, isBo4, isPt25, isMp43, isMp44, isIf20]) ?_
  refine run_ff (by simpa using hh) ?_
  refine goZ hB [] 3000 rfl (by simp [conj, Fits_i64, isBo4, isPt25, isMp43, isMp44, isIf20]) ?_
  refine run_mlenN l l.length rfl (hkl.1.imp fun {x y} q => by omega) (fun x => (hkl.2 x).symm) rfl rfl (by simp [conj]) rfl rfl ?_
  refine goZ hB [(48, 31)] 3000 rfl (by simp [conj, Fits_i64, isBo4, isPt25, isMp43, isMp44, isIf20]) ?_
  refine run_ff (by simp; omega) ?_
  refine goZ hB [] 3000 rfl (by simp [conj, Fits_i64, isBo4, isPt25, isMp43, isMp44, isIf20]) ?_
  refine run_retF hF0 hpin (⟨hN, V⟩ : NSt) hNK [0, 1, 2, 1, 2] rfl rfl (by simp [conj]) rfl ?_
  simp [conj, less_rfl, ren_val, gen1]
set_option maxHeartbeats 4000000 in
theorem reg_new (K : Kn) (s : RSt) (z0 : NSt) (hNK : NOK K z0.h z0.V s.N) (host a key cur : Int) (ig : Bool) (l : List Int) (hkl : KeysOf s.h l) (ha : host ≠ 0) (hq : a = 0) (hk : key ≠ 0) (hh : s.h host = false) (hl : l.length < 128) : RegC K s z0 host a key cur ig (0, { s with h := hAdd s.h host, v := vAdd s.v host key, G := gen1 s.G }) := by
  obtain ⟨hN, V⟩ := z0
  obtain ⟨h, v, T, H, G, p, N⟩ := s
  refine hcx_of_run Try.func17 rfl (fun B hB hK hpin => ?_)
  have hF0 : Fz B K M0 B K := .refl hB hK
  subst hq
  refine goZ hB [(40, 13)] 3000 rfl (by simp [conj, Fits_i64, isBo4, isPt25, isMp43, isMp44, isIf20]) ?_
  refine run_tt (by simpa using ha) ?_
  refine goZ hB [] 3000 rfl (by simp [conj, Fits_i64, isBo4, isPt25, isMp43, isMp44, isIf20]) ?_
  refine run_draw0 mixed (fun t => ?_)
  refine run_drawC (M := modeX) 1 14 rfl named hB (sumOk_nil _) [(15, rcV hN V 1), (20, rcK h v 2)] ⟨rcV_ok _ _ _, rcK_ok _ _ _, trivial⟩ rfl rfl rfl rfl rfl rfl (by simp [conj, less_rfl, SO.Live, ren_val]) (fun t => ?_)
  refine run_drawE rfl ?_
  refine goZ hB [(48, 8)] 3000 rfl (by simp [conj, Fits_i64, isBo4, isPt25, isMp43, isMp44, isIf20]) ?_
  refine run_tt (by simpa using hk) ?_
  refine goZ hB [(48, 5)] 3000 rfl (by simp [conj, Fits_i64, isBo4, isPt25, isMp43, isMp44, isIf20]) ?_
  refine run_ff (by simpa using hh) ?_
  refine goZ hB [] 3000 rfl (by simp [conj, Fits_i64, isBo4, isPt25, isMp43, isMp44, isIf20]) ?_
  refine run_mlenN l l.length rfl (hkl.1.imp fun {x y} q => by omega) (fun x => (hkl.2 x).symm) rfl rfl (by simp [conj]) rfl rfl ?_
  refine goZ hB [(48, 31)] 3000 rfl (by simp [conj, Fits_i64, isBo4, isPt25, isMp43, isMp44, isIf20]) ?_
  refine run_tt (by simp; omega) ?_
  refine goZ hB [] 3000 rfl (by simp [conj, Fits_i64, isBo4, isPt25, isMp43, isMp44, isIf20]) ?_
  refine run_retF hF0 hpin (⟨hN, V⟩ : NSt) hNK [0, 1, 2, 15, 20] rfl rfl (by simp [conj]) rfl ?_
  simp [conj, less_rfl, ren_val, gen1]
set_option maxHeartbeats 4000000 in
theorem reg_rep0 (K : Kn) (s : RSt) (z0 : NSt) (hNK : NOK K z0.h z0.V s.N) (host a key cur : Int) (ig : Bool) (ha : host ≠ 0) (hq : a = 2) (hk : key = 0) : RegC K s z0 host a key cur ig (2, s) := by
  obtain ⟨hN, V⟩ := z0
  obtain ⟨h, v, T, H, G, p, N⟩ := s
  refine hcx_of_run Try.func17 rfl (fun B hB hK hpin => ?_)
  have hF0 : Fz B K M0 B K := .refl hB hK
  subst hq
  refine goZ hB [(40, 13)] 3000 rfl (by simp [conj, Fits_i64, isBo4, isPt25, isMp43, isMp44, isIf20]) ?_
  refine run_tt (by simpa using ha) ?_
  refine goZ hB [] 3000 rfl (by simp [conj, Fits_i64, isBo4, isPt25, isMp43, isMp44, isIf20]) ?_
  refine run_draw0 mixed (fun t => ?_)
  refine run_drawC (M := modeX) 1 14 rfl named hB (sumOk_nil _) [(15, rcV hN V 1), (20, rcK h v 2)] ⟨rcV_ok _ _ _, rcK_ok _ _ _, trivial⟩ rfl rfl rfl rfl rfl rfl (by simp [conj, less_rfl, SO.Live, ren_val]) (fun t => ?_)
  refine run_drawE rfl ?_
  refine goZ hB [(50, 6)] 3000 rfl (by simp [conj, Fits_i64, isBo4, isPt25, isMp43, isMp44, isIf20]) ?_
  refine run_ff (by simpa using hk) ?_
  refine goZ hB [] 3000 rfl (by simp [conj, Fits_i64, isBo4, isPt25, isMp43, isMp44, isIf20]) ?_
  refine run_retF hF0 hpin (⟨hN, V⟩ : NSt) hNK [0, 1, 2, 1, 2] rfl rfl (by simp [conj]) rfl ?_
  simp [conj, less_rfl, ren_val, gen1]
set_option maxHeartbeats 4000000 in
theorem reg_repno (K : Kn) (s : RSt) (z0 : NSt) (hNK : NOK K z0.h z0.V s.N) (host a key cur : Int) (ig : Bool) (ha : host ≠ 0) (hq : a = 2) (hk : key ≠ 0) (hc : (s.h host && (ig || decide (s.v host = cur))) = false) : RegC K s z0 host a key cur ig (131, s) := by
  obtain ⟨hN, V⟩ := z0
  obtain ⟨h, v, T, H, G, p, N⟩ := s
  refine hcx_of_run Try.func17 rfl (fun B hB hK hpin => ?_)
  have hF0 : Fz B K M0 B K := .refl hB hK
  subst hq
  have hc : (h host && (ig || decide (v host = cur))) = false := hc
  refine goZ hB [(40, 13)] 3000 rfl (by simp [conj, Fits_i64, isBo4, isPt25, isMp43, isMp44, isIf20]) ?_
  refine run_tt (by simpa using ha) ?_
  refine goZ hB [] 3000 rfl (by simp [conj, Fits_i64, isBo4, isPt25, isMp43, isMp44, isIf20]) ?_
  refine run_draw0 mixed (fun t => ?_)
  refine run_drawC (M := modeX) 1 14 rfl named hB (sumOk_nil _) [(15, rcV hN V 1), (20, rcK h v 2)] ⟨rcV_ok _ _ _, rcK_ok _ _ _, trivial⟩ rfl rfl rfl rfl rfl rfl (by simp [conj, less_rfl, SO.Live, ren_val]) (fun t => ?_)
  refine run_drawE rfl ?_
  refine goZ hB [(50, 6)] 3000 rfl (by simp [conj, Fits_i64, isBo4, isPt25, isMp43, isMp44, isIf20]) ?_
  refine run_tt (by simpa using hk) ?_
  refine goZ hB [(50, 14)] 3000 rfl (by simp [conj, Fits_i64, isBo4, isPt25, isMp43, isMp44, isIf20]) ?_
  refine goQ hB rfl rfl (by simp [conj, Fits_i64, isBo4, isPt25, isMp43, isMp44, isIf20] <;> first | omega | exact fun a b => ⟨a, b⟩ | skip) ?_
  refine run_tt (by rw [nkn, hc]; rfl) ?_
  refine goZ hB [] 3000 rfl (by simp [conj, Fits_i64, isBo4, isPt25, isMp43, isMp44, isIf20]) ?_
  refine run_retF hF0 hpin (⟨hN, V⟩ : NSt) hNK [0, 1, 2, 1, 2] rfl rfl (by simp [conj]) rfl ?_
  simp [conj, less_rfl, ren_val, gen1]
set_option maxHeartbeats 4000000 in
theorem reg_rep (K : Kn) (s : RSt) (z0 : NSt) (hNK : NOK K z0.h z0.V s.N) (host a key cur : Int) (ig : Bool) (ha : host ≠ 0) (hq : a = 2) (hk : key ≠ 0) (hc : (s.h host && (ig || decide (s.v host = cur))) = true) : RegC K s z0 host a key cur ig (0, { s with h := hAdd s.h host, v := vAdd s.v host key, G := gen1 s.G }) := by
  obtain ⟨hN, V⟩ := z0
  obtain ⟨h, v, T, H, G, p, N⟩ := s
  refine hcx_of_run Try.func17 rfl (fun B hB hK hpin => ?_)
  have hF0 : Fz B K M0 B K := .refl hB hK
  subst hq
  have hc : (h host && (ig || decide (v host = cur))) = true := hc
  refine goZ hB [(40, 13)] 3000 rfl (by simp [conj, Fits_i64, isBo4, isPt25, isMp43, isMp44, isIf20]) ?_
  refine run_tt (by simpa using ha) ?_
  refine goZ hB [] 3000 rfl (by simp [conj, Fits_i64, isBo4, isPt25, isMp43, isMp44, isIf20]) ?_
  refine run_draw0 mixed (fun t => ?_)
  refine run_drawC (M := modeX) 1 14 rfl named hB (sumOk_nil _) [(15, rcV hN V 1), (20, rcK h v 2)] ⟨rcV_ok _ _ _, rcK_ok _ _ _, trivial⟩ rfl rfl rfl rfl rfl rfl (by simp [conj, less_rfl, SO.Live, ren_val]) (fun t => ?_)
  refine run_drawE rfl ?_
  refine goZ hB [(50, 6)] 3000 rfl (by simp [conj, Fits_i64, isBo4, isPt25, isMp43, isMp44, isIf20]) ?_
  refine run_tt (by simpa using hk) ?_
  refine goZ hB [(50, 14)] 3000 rfl (by simp [conj, Fits_i64, isBo4, isPt25, isMp43, isMp44, isIf20]) ?_
  refine goQ hB rfl rfl (by simp [conj, Fits_i64, isBo4, isPt25, isMp43, isMp44, isIf20] <;> first | omega | exact fun a b => ⟨a, b⟩ | skip) ?_
  refine run_ff (by rw [nkn, hc]; rfl) ?_
  refine goZ hB [] 3000 rfl (by simp [conj, Fits_i64, isBo4, isPt25, isMp43, isMp44, isIf20]) ?_
  refine run_retF hF0 hpin (⟨hN, V⟩ : NSt) hNK [0, 1, 2, 15, 20] rfl rfl (by simp [conj]) rfl ?_
  simp [conj, less_rfl, ren_val, gen1]
set_option maxHeartbeats 4000000 in
theorem reg_unno (K : Kn) (s : RSt) (z0 : NSt) (hNK : NOK K z0.h z0.V s.N) (host a key cur : Int) (ig : Bool) (ha : host ≠ 0) (hq : a = 1) (hc : (s.h host && (ig || decide (s.v host = cur))) = false) : RegC K s z0 host a key cur ig (131, s) := by
  obtain ⟨hN, V⟩ := z0
  obtain ⟨h, v, T, H, G, p, N⟩ := s
  refine hcx_of_run Try.func17 rfl (fun B hB hK hpin => ?_)
  have hF0 : Fz B K M0 B K := .refl hB hK
  subst hq
  have hc : (h host && (ig || decide (v host = cur))) = false := hc
  refine goZ hB [(40, 13)] 3000 rfl (by simp [conj, Fits_i64, isBo4, isPt25, isMp43, isMp44, isIf20]) ?_
  refine run_tt (by simpa using ha) ?_
  refine goZ hB [] 3000 rfl (by simp [conj, Fits_i64, isBo4, isPt25, isMp43, isMp44, isIf20]) ?_
  refine run_draw0 mixed (fun t => ?_)
  refine run_drawC (M := modeX) 1 14 rfl named hB (sumOk_nil _) [(15, rcV hN V 1), (20, rcK h v 2)] ⟨rcV_ok _ _ _, rcK_ok _ _ _, trivial⟩ rfl rfl rfl rfl rfl rfl (by simp [conj, less_rfl, SO.Live, ren_val]) (fun t => ?_)
  refine run_drawE rfl ?_
  refine goZ hB [(49, 10)] 3000 rfl (by simp [conj, Fits_i64, isBo4, isPt25, isMp43, isMp44, isIf20]) ?_
  refine goQ hB rfl rfl (by simp [conj, Fits_i64, isBo4, isPt25, isMp43, isMp44, isIf20] <;> first | omega | exact fun a b => ⟨a, b⟩ | skip) ?_
  refine run_tt (by rw [nkn, hc]; rfl) ?_
  refine goZ hB [] 3000 rfl (by simp [conj, Fits_i64, isBo4, isPt25, isMp43, isMp44, isIf20]) ?_
  refine run_retF hF0 hpin (⟨hN, V⟩ : NSt) hNK [0, 1, 2, 1, 2] rfl rfl (by simp [conj]) rfl ?_
  simp [conj, less_rfl, ren_val, gen1]
set_option maxHeartbeats 4000000 in
theorem reg_un (K : Kn) (s : RSt) (z0 : NSt) (hNK : NOK K z0.h z0.V s.N) (host a key cur : Int) (ig : Bool) (l : List Int) (hkl : KeysOf s.h l) (hl : l.length < 129) (hN16 : ∀ a, (s.N a).length ≤ 16) (ha : host ≠ 0) (hq : a = 1) (hc : (s.h host && (ig || decide (s.v host = cur))) = true) : RegC K s z0 host a key cur ig (0, { remS s l host host with G := gen1 s.G }) := by
  obtain ⟨hN, V⟩ := z0
  obtain ⟨h, v, T, H, G, p, N⟩ := s
  refine hcx_of_run Try.func17 rfl (fun B hB hK hpin => ?_)
  have hF0 : Fz B K M0 B K := .refl hB hK
  subst hq
  have hc : (h host && (ig || decide (v host = cur))) = true := hc
  refine goZ hB [(40, 13)] 3000 rfl (by simp [conj, Fits_i64, isBo4, isPt25, isMp43, isMp44, isIf20]) ?_
  refine run_tt (by simpa using ha) ?_
  refine goZ hB [] 3000 rfl (by simp [conj, Fits_i64, isBo4, isPt25, isMp43, isMp44, isIf20]) ?_
  refine run_draw0 mixed (fun t => ?_)
  refine run_drawC (M := modeX) 1 14 rfl named hB (sumOk_nil _) [(15, rcV hN V 1), (20, rcK h v 2)] ⟨rcV_ok _ _ _, rcK_ok _ _ _, trivial⟩ rfl rfl rfl rfl rfl rfl (by simp [conj, less_rfl, SO.Live, ren_val]) (fun t => ?_)
  refine run_drawE rfl ?_
  refine goZ hB [(49, 10)] 3000 rfl (by simp [conj, Fits_i64, isBo4, isPt25, isMp43, isMp44, isIf20]) ?_
  refine goQ hB rfl rfl (by simp [conj, Fits_i64, isBo4, isPt25, isMp43, isMp44, isIf20] <;> first | omega | exact fun a b => ⟨a, b⟩ | skip) ?_
  refine run_ff (by rw [nkn, hc]; rfl) ?_
  refine goZ hB [] 3000 rfl (by simp [conj, Fits_i64, isBo4, isPt25, isMp43, isMp44, isIf20]) ?_
  refine run_callX (remove_hcx K hN V N hNK hN16 h v l hkl hl T H G p host host) named hB hK (fun _ h => h.elim) (.inr fun _ h => h) [10, 15, 20] rfl rfl rfl rfl (by simp [conj]) (by simp [conj, less_rfl, ren_val]) ?_
  rintro ⟨h2, V2⟩ B2 K2 hN2 hF2 hp2
  refine ⟨show 3 ≤ 3 by omega, _, _, _, rfl, rfl, rfl, ?_⟩
  have hB2 := hF2.ok
  refine goZ hB2 [] 3000 rfl (by simp [conj, Fits_i64, isBo4, isPt25, isMp43, isMp44, isIf20]) ?_
  refine run_retF hF2 (hpin.fz hF2 hp2) (⟨h2, V2⟩ : NSt) hN2 [0, 1, 2, 15, 20] rfl rfl (by simp [conj]) rfl ?_
  simp [conj, less_rfl, ren_val, gen1, remS]
theorem register_hcx (K : Kn) (s : RSt) (z0 : NSt) (hNK : NOK K z0.h z0.V s.N) (l : List Int) (hkl : KeysOf s.h l) (hl : l.length < 129) (hN16 : ∀ a, (s.N a).length ≤ 16) (host a key cur : Int) (ig : Bool) : RegC K s z0 host a key cur ig (regO s l host a key cur ig) := by
  unfold regO
  by_cases h0 : host = 0
  · rw [if_pos (.inl h0)]; exact reg_zero K s z0 hNK host a key cur ig h0
  by_cases h1 : 0 ≤ a ∧ a ≤ 2
  · rw [if_neg (by simp [h0, h1])]
    by_cases a0 : a = 0
    · rw [if_pos a0]
      by_cases k0 : key = 0
      · rw [if_pos k0]; exact reg_key0 K s z0 hNK host a key cur ig h0 a0 k0
      rw [if_neg k0]
      by_cases hh : s.h host = true
      · rw [if_pos hh]
        by_cases hv : s.v host = key
        · rw [if_pos hv]; exact reg_same K s z0 hNK host a key cur ig h0 a0 k0 hh hv
        · rw [if_neg hv]; exact reg_conf K s z0 hNK host a key cur ig h0 a0 k0 hh hv
      rw [if_neg hh]
      have hh := Bool.eq_false_iff.2 hh
      by_cases hf : 128 ≤ l.length
      · rw [if_pos hf]; exact reg_full K s z0 hNK host a key cur ig l hkl h0 a0 k0 hh hf
      · rw [if_neg hf]; exact reg_new K s z0 hNK host a key cur ig l hkl h0 a0 k0 hh (by omega)
    rw [if_neg a0]
    by_cases a1 : a = 1
    · rw [if_pos a1]
      by_cases hc : (s.h host && (ig || decide (s.v host = cur))) = true
      · rw [if_pos hc]; exact reg_un K s z0 hNK host a key cur ig l hkl hl hN16 h0 a1 hc
      · rw [if_neg hc]; exact reg_unno K s z0 hNK host a key cur ig h0 a1 (Bool.eq_false_iff.2 hc)
    rw [if_neg a1]
    have a2 : a = 2 := by omega
    by_cases k0 : key = 0
    · rw [if_pos k0]; exact reg_rep0 K s z0 hNK host a key cur ig h0 a2 k0
    rw [if_neg k0]
    by_cases hc : (s.h host && (ig || decide (s.v host = cur))) = true
    · rw [if_pos hc]; exact reg_rep K s z0 hNK host a key cur ig h0 a2 k0 hc
    · rw [if_neg hc]; exact reg_repno K s z0 hNK host a key cur ig h0 a2 k0 (Bool.eq_false_iff.2 hc)
  · rw [if_pos (.inr h1)]; exact reg_act K s z0 hNK host a key cur ig h0 h1
end Sx
end
