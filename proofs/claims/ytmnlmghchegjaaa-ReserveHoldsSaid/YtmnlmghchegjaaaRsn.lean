/- Same at two equal reports. Conditions: as each theorem says. -/
import Derived.Test.YtmnlmghchegjaaaRsm
set_option linter.unusedSimpArgs false
set_option linter.unusedVariables false
namespace Sx
open Go Go.Proofs
set_option maxRecDepth 100000
theorem sameN_hc (G T : Int) (p : Bool) (R : List Reg) (n c1 c2 : Nat) (hn : n < 1000000) :
    HC Try.prog 23 [rep G T p 0 n .no, rep G T p 1 n .no] [] [(0, .row 0 n c1 3 (regR R) 82), (1, .row 0 n c2 3 (regR R) 82)] 2 (fun _ : Unit => True) (fun _ => ⟨.tt, [], 2⟩) := by
  refine hc_of_run Try.func23 rfl (fun B hB hpin => ?_)
  refine goR hB rfl rfl (by simp [conj, isBo4]) ?_
  refine run_condF rfl (by simp) ?_
  refine goR hB rfl rfl (by simp [conj]) ?_
  refine run_loop ?_
  refine run_inv (ι := Nat) hpin (fun i => i ≤ n) (fun i => n - i) (fun i => [(5, i64 i), (2, .ptr 2 0), (3, .ptr 3 0)]) (fun _ => []) (fun i => [(2, .cells (repL G T p 0 n .no) 67), (3, .cells (repL G T p 1 n .no) 67)]) 4 0 (Nat.zero_le _)
    [0, 1, 2, 3] rfl rfl (by simp [conj, less_rfl, ren_regR]) ?_
  intro i hi ih
  refine goR hB rfl rfl (by simp [conj]) ?_
  refine run_cond rfl (fun hh => ?_) (fun hh => ?_)
  · have hi1 : i < n := by simpa using hh
    have ih := ih (i + 1) (by omega) (by omega)
    refine goR hB rfl rfl (by simp [conj, rowEqK82, kinds]; try omega) ?_
    refine run_condF rfl (by simp) ?_
    refine goR hB rfl rfl (by simp [conj, Fits_i64]; try omega) ?_
    refine run_back ?_
    refine run_to hpin [0, 1, 2, 3] rfl rfl ?_ ih
    clear ih
    simp [conj, less_rfl, ren_regR, renR_regR]
  · clear ih
    refine goR hB rfl rfl (by simp [conj]) ?_
    refine run_retC hpin () trivial [0, 1] rfl rfl (by simp [conj]) rfl ?_
    simp [conj, less_rfl, ren_regR]
end Sx
