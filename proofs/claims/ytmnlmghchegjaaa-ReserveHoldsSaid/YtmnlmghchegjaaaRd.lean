/- More contracts for the examples. Conditions: as each theorem says. -/
import Derived.Test.YtmnlmghchegjaaaRb
set_option linter.unusedSimpArgs false
set_option linter.unusedVariables false
namespace Sx
open Go Go.Proofs
set_option maxRecDepth 100000
abbrev st4 (a b c d : Int) (p q : SV) : SV := .agg [.int .u8 a, .int .u8 b, p, q]
theorem hosts1_hc : HC Try.prog 30 [.sq 0 0 0 1 1 .no, .sq 1 0 0 1 1 .no] [] [(0, .row 0 1 1 1 (rowL .u64 [1]) 23), (1, .cells [u64 1] 23)] 2 (fun _ : Unit => True) (fun _ => ⟨.tt, [], 2⟩) := by
  refine hc_of_run Try.func30 rfl (fun B hB hpin => ?_)
  refine goX hB 300 rfl (by simp [conj, Fits_i64] <;> decide +kernel) ?_
  exact run_retC hpin () trivial [0, 1] rfl rfl (by simp [conj]) rfl (by simp [conj, less_rfl, ren_rowL])
def rcHosts (a b : Nat) : RC := ⟨30, [.sq 0 0 0 1 1 .no, .sq 1 0 0 1 1 .no], [], [(0, .row 0 1 1 1 (rowL .u64 [1]) 23), (1, .cells [u64 1] 23)], 2, .tt, [], 2, [a, b]⟩
theorem rcHosts_ok (a b : Nat) : RcOk Try.prog (rcHosts a b) := ⟨hosts1_hc, rfl, Nat.le_refl _⟩
theorem code0_hc : HC Try.prog 16 [.agg [.int .u8 0, .int .u8 0, .ff, .ff], i64 0] [] [] 0 (fun _ : Unit => True) (fun _ => ⟨.tt, [], 0⟩) := by
  refine hc_of_run Try.func16 rfl (fun B hB hpin => ?_)
  refine goX hB 300 rfl (by simp [conj, rowEqK49, kinds]) ?_
  exact run_retC hpin () trivial [] rfl rfl (by simp [conj]) rfl (by simp [conj])
def rcCode0 : RC := ⟨16, [.agg [.int .u8 0, .int .u8 0, .ff, .ff], i64 0], [], [], 0, .tt, [], 0, []⟩
theorem rcCode0_ok : RcOk Try.prog rcCode0 := ⟨code0_hc, rfl, Nat.le_refl _⟩
abbrev rC : SO := .cells [.und, .mp 1, i64 3, u64 2, .int .u32 3, .ff] 46
abbrev mC : SO := .map .u64 hC (.ints .u64 vB)
theorem allow1_hc : HC Try.prog 19 [.ptr 0 0, u64 1, .tt] [] [(0, rC), (1, mC)] 2 (fun _ : Unit => True) (fun _ => ⟨.ff, [], 2⟩) := by
  refine hc_of_run Try.func19 rfl (fun B hB hpin => ?_)
  refine goX hB 300 rfl (by simp [conj, isPt25, isMp44, isBo4, Fits_i64] <;> decide +kernel) ?_
  exact run_retC hpin () trivial [0, 1] rfl rfl (by simp [conj]) rfl (by simp [conj, less_rfl])
theorem allow2_hc : HC Try.prog 19 [.ptr 0 0, u64 2, .tt] [] [(0, rC), (1, mC)] 2 (fun _ : Unit => True) (fun _ => ⟨.tt, [], 2⟩) := by
  refine hc_of_run Try.func19 rfl (fun B hB hpin => ?_)
  refine goX hB 300 rfl (by simp [conj, isPt25, isMp44, isBo4, Fits_i64] <;> decide +kernel) ?_
  exact run_retC hpin () trivial [0, 1] rfl rfl (by simp [conj]) rfl (by simp [conj, less_rfl])
def rcAl (h : Int) (r : SV) (a b : Nat) : RC := ⟨19, [.ptr 0 0, u64 h, .tt], [], [(0, rC), (1, mC)], 2, r, [], 2, [a, b]⟩
theorem holds2_hc : HC Try.prog 55 [.ptr 0 0, u64 2] [] [(0, rC), (1, mC)] 2 (fun _ : Unit => True) (fun _ => ⟨.tt, [], 2⟩) := by
  refine hc_of_run Try.func55 rfl (fun B hB hpin => ?_)
  refine goX hB 300 rfl (by simp [conj, isPt25, isMp44, isBo4, Fits_i64] <;> decide +kernel) ?_
  exact run_retC hpin () trivial [0, 1] rfl rfl (by simp [conj]) rfl (by simp [conj, less_rfl])
def rcHo (a b : Nat) : RC := ⟨55, [.ptr 0 0, u64 2], [], [(0, rC), (1, mC)], 2, .tt, [], 2, [a, b]⟩
/-- The registration of the examples. -/
def reg1 : Nat → Nat → SV := fun _ k => match k with
  | 0 => u64 2
  | 1 => u64 20
  | _ => .tt
theorem ren_reg1 (nx : Nat) (sg : List Nat) (i k : Nat) : ren nx sg (reg1 i k) = reg1 i k := by
  unfold reg1; split <;> simp only [ren, renF, id]
theorem renR_reg1 (nx : Nat) (sg : List Nat) : renR nx sg reg1 = reg1 := by funext i k; exact ren_reg1 nx sg i k
theorem report_hc : HC Try.prog 24 [.ptr 0 0] [(1, mC)] [(0, rC)] 2 (fun _ : Unit => True) (fun _ => ⟨.agg [.int .u32 3, i64 3, .ff, .sq 2 0 0 3 1 .own], [(1, mC), (2, .row 0 1 1 3 reg1 82)], 3⟩) := by
  refine hc_of_run Try.func24 rfl (fun B hB hpin => ?_)
  refine goX hB 900 rfl (by simp [conj, isPt25, isMp44, isBo4, Fits_i64] <;> decide +kernel) ?_
  refine run_callC (sorted1_hc hC vB 2 keysC) named hB [19, 1] rfl rfl rfl rfl (by simp [conj]) (by simp [conj, less_rfl]) ?_
  rintro ⟨⟩ _
  refine ⟨show 2 ≤ 3 by omega, _, _, _, rfl, rfl, rfl, ?_⟩
  refine goX hB 900 rfl (by simp [conj, isPt25, isMp44, isBo4, Fits_i64] <;> decide +kernel) ?_
  refine run_draw0 mixed (fun t => ?_)
  refine run_drawC (M := modeU []) 1 17 rfl named hB (sumOk_nil _) [(34, rcHo 0 1)] ⟨⟨holds2_hc, rfl, Nat.le_refl _⟩, trivial⟩ rfl rfl rfl rfl rfl rfl ?_ (fun t => ?_)
  · simp [conj, less_rfl, SO.Live, isPt25, isMp44, Fits_i64] <;> decide +kernel
  refine run_drawE rfl ?_
  refine goX hB 900 rfl (by simp [conj, isPt25, isMp44, isBo4, Fits_i64] <;> decide +kernel) ?_
  refine run_retC hpin () trivial [0, 1, 37] rfl rfl (by simp [conj]) rfl ?_
  simp [conj, less_rfl]
  rintro i k rfl hk
  match k, hk with
  | 0, _ => exact Less.rfl
  | 1, _ => exact Less.rfl
  | 2, _ => exact Less.rfl
theorem same_hc : HC Try.prog 23 [.agg [.int .u32 3, i64 3, .ff, .sq 0 0 0 3 1 .no], .agg [.int .u32 3, i64 3, .ff, .sq 1 0 0 3 1 .no]] [] [(0, .row 0 1 1 3 reg1 82), (1, .cells [u64 2, u64 20, .tt] 82)] 2 (fun _ : Unit => True) (fun _ => ⟨.tt, [], 2⟩) := by
  refine hc_of_run Try.func23 rfl (fun B hB hpin => ?_)
  refine goX hB 900 rfl (by simp [conj, isBo4, rowEqK82, kinds, Fits_i64] <;> decide +kernel) ?_
  exact run_retC hpin () trivial [0, 1] rfl rfl (by simp [conj]) rfl (by simp [conj, less_rfl, ren_reg1])
def rcRep (a b : Nat) : RC := ⟨24, [.ptr 0 0], [(1, mC)], [(0, rC)], 2, .agg [.int .u32 3, i64 3, .ff, .sq 2 0 0 3 1 .own], [(1, mC), (2, .row 0 1 1 3 reg1 82)], 3, [a, b]⟩
def rcSm (a b : Nat) : RC := ⟨23, [.agg [.int .u32 3, i64 3, .ff, .sq 0 0 0 3 1 .no], .agg [.int .u32 3, i64 3, .ff, .sq 1 0 0 3 1 .no]], [], [(0, .row 0 1 1 3 reg1 82), (1, .cells [u64 2, u64 20, .tt] 82)], 2, .tt, [], 2, [a, b]⟩
theorem less_nil (i j off off' s s' : Nat) (ap : Ap) : Less (.sq i off s 1 0 .no) (.sq j off' s' 1 0 ap) := by
  refine fun β v h => ?_
  obtain ⟨base, room, h1, h2, _, _, _⟩ := h
  exact ⟨base, room, h1, h2, fun h => (by cases h), fun h => (by cases h), fun h => absurd h (Nat.lt_irrefl 0)⟩
theorem less_nE (nx : Nat) (sg : List Nat) (a b : Int) : Less (ren nx sg (nE a)) (nE b) := by
  simp only [nE, ren, renF, natF_eq]
  exact less_nil _ _ _ _ _ _ _
theorem less_nE2 (nx nx' : Nat) (sg sg' : List Nat) (a b : Int) : Less (ren nx sg (nE a)) (ren nx' sg' (nE b)) := by
  simp only [nE, ren, renF, natF_eq]
  exact less_nil _ _ _ _ _ _ _
end Sx
