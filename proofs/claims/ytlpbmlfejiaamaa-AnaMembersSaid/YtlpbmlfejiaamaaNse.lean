/- bits.Len of a byte, nextPowerOfTwo, breakPatternsOrdered. Conditions: as each theorem says. -/
import Derived.Test.YtlpbmlfejiaamaaNsd
set_option linter.unusedSimpArgs false
set_option linter.unusedVariables false
namespace Sx
open Go Go.Proofs
set_option maxRecDepth 100000
set_option maxHeartbeats 20000000 in
theorem len_hc (x : Nat) (hx : x < 129) : HC Try.prog 88 [u64 x] [] [] 0 (fun l : Nat => l ≤ 8 ∧ x < 2 ^ l ∧ (0 < x → 2 ^ l ≤ 2 * x)) (fun l => ⟨i64 l, [], 0⟩) := by
  refine hc_of_run Try.func88 rfl (fun B hB hpin => ?_)
  refine goS hB rfl rfl (by simp [conj]) ?_
  refine run_condF rfl (by simp; omega) ?_
  refine goS hB rfl rfl (by simp [conj]) ?_
  refine run_condF rfl (by simp; omega) ?_
  refine goS hB rfl rfl (by simp [conj]) ?_
  refine run_condF rfl (by simp; omega) ?_
  match x, hx with
  | 0, _ =>
    refine goX hB 300 rfl (by simp [conj, Fits_i64]; try decide +kernel) ?_
    exact run_retC hpin 0 (by decide) [] rfl rfl (by simp [conj]) rfl (by simp [conj]; try decide +kernel)
  | 1, _ =>
    refine goX hB 300 rfl (by simp [conj, Fits_i64]; try decide +kernel) ?_
    exact run_retC hpin 1 (by decide) [] rfl rfl (by simp [conj]) rfl (by simp [conj]; try decide +kernel)
  | 2, _ =>
    refine goX hB 300 rfl (by simp [conj, Fits_i64]; try decide +kernel) ?_
    exact run_retC hpin 2 (by decide) [] rfl rfl (by simp [conj]) rfl (by simp [conj]; try decide +kernel)
  | 3, _ =>
    refine goX hB 300 rfl (by simp [conj, Fits_i64]; try decide +kernel) ?_
    exact run_retC hpin 2 (by decide) [] rfl rfl (by simp [conj]) rfl (by simp [conj]; try decide +kernel)
  | 4, _ =>
    refine goX hB 300 rfl (by simp [conj, Fits_i64]; try decide +kernel) ?_
    exact run_retC hpin 3 (by decide) [] rfl rfl (by simp [conj]) rfl (by simp [conj]; try decide +kernel)
  | 5, _ =>
    refine goX hB 300 rfl (by simp [conj, Fits_i64]; try decide +kernel) ?_
    exact run_retC hpin 3 (by decide) [] rfl rfl (by simp [conj]) rfl (by simp [conj]; try decide +kernel)
  | 6, _ =>
    refine goX hB 300 rfl (by simp [conj, Fits_i64]; try decide +kernel) ?_
    exact run_retC hpin 3 (by decide) [] rfl rfl (by simp [conj]) rfl (by simp [conj]; try decide +kernel)
  | 7, _ =>
    refine goX hB 300 rfl (by simp [conj, Fits_i64]; try decide +kernel) ?_
    exact run_retC hpin 3 (by decide) [] rfl rfl (by simp [conj]) rfl (by simp [conj]; try decide +kernel)
  | 8, _ =>
    refine goX hB 300 rfl (by simp [conj, Fits_i64]; try decide +kernel) ?_
    exact run_retC hpin 4 (by decide) [] rfl rfl (by simp [conj]) rfl (by simp [conj]; try decide +kernel)
  | 9, _ =>
    refine goX hB 300 rfl (by simp [conj, Fits_i64]; try decide +kernel) ?_
    exact run_retC hpin 4 (by decide) [] rfl rfl (by simp [conj]) rfl (by simp [conj]; try decide +kernel)
  | 10, _ =>
    refine goX hB 300 rfl (by simp [conj, Fits_i64]; try decide +kernel) ?_
    exact run_retC hpin 4 (by decide) [] rfl rfl (by simp [conj]) rfl (by simp [conj]; try decide +kernel)
  | 11, _ =>
    refine goX hB 300 rfl (by simp [conj, Fits_i64]; try decide +kernel) ?_
    exact run_retC hpin 4 (by decide) [] rfl rfl (by simp [conj]) rfl (by simp [conj]; try decide +kernel)
  | 12, _ =>
    refine goX hB 300 rfl (by simp [conj, Fits_i64]; try decide +kernel) ?_
    exact run_retC hpin 4 (by decide) [] rfl rfl (by simp [conj]) rfl (by simp [conj]; try decide +kernel)
  | 13, _ =>
    refine goX hB 300 rfl (by simp [conj, Fits_i64]; try decide +kernel) ?_
    exact run_retC hpin 4 (by decide) [] rfl rfl (by simp [conj]) rfl (by simp [conj]; try decide +kernel)
  | 14, _ =>
    refine goX hB 300 rfl (by simp [conj, Fits_i64]; try decide +kernel) ?_
    exact run_retC hpin 4 (by decide) [] rfl rfl (by simp [conj]) rfl (by simp [conj]; try decide +kernel)
  | 15, _ =>
    refine goX hB 300 rfl (by simp [conj, Fits_i64]; try decide +kernel) ?_
    exact run_retC hpin 4 (by decide) [] rfl rfl (by simp [conj]) rfl (by simp [conj]; try decide +kernel)
  | 16, _ =>
    refine goX hB 300 rfl (by simp [conj, Fits_i64]; try decide +kernel) ?_
    exact run_retC hpin 5 (by decide) [] rfl rfl (by simp [conj]) rfl (by simp [conj]; try decide +kernel)
  | 17, _ =>
    refine goX hB 300 rfl (by simp [conj, Fits_i64]; try decide +kernel) ?_
    exact run_retC hpin 5 (by decide) [] rfl rfl (by simp [conj]) rfl (by simp [conj]; try decide +kernel)
  | 18, _ =>
    refine goX hB 300 rfl (by simp [conj, Fits_i64]; try decide +kernel) ?_
    exact run_retC hpin 5 (by decide) [] rfl rfl (by simp [conj]) rfl (by simp [conj]; try decide +kernel)
  | 19, _ =>
    refine goX hB 300 rfl (by simp [conj, Fits_i64]; try decide +kernel) ?_
    exact run_retC hpin 5 (by decide) [] rfl rfl (by simp [conj]) rfl (by simp [conj]; try decide +kernel)
  | 20, _ =>
    refine goX hB 300 rfl (by simp [conj, Fits_i64]; try decide +kernel) ?_
    exact run_retC hpin 5 (by decide) [] rfl rfl (by simp [conj]) rfl (by simp [conj]; try decide +kernel)
  | 21, _ =>
    refine goX hB 300 rfl (by simp [conj, Fits_i64]; try decide +kernel) ?_
    exact run_retC hpin 5 (by decide) [] rfl rfl (by simp [conj]) rfl (by simp [conj]; try decide +kernel)
  | 22, _ =>
    refine goX hB 300 rfl (by simp [conj, Fits_i64]; try decide +kernel) ?_
    exact run_retC hpin 5 (by decide) [] rfl rfl (by simp [conj]) rfl (by simp [conj]; try decide +kernel)
  | 23, _ =>
    refine goX hB 300 rfl (by simp [conj, Fits_i64]; try decide +kernel) ?_
    exact run_retC hpin 5 (by decide) [] rfl rfl (by simp [conj]) rfl (by simp [conj]; try decide +kernel)
  | 24, _ =>
    refine goX hB 300 rfl (by simp [conj, Fits_i64]; try decide +kernel) ?_
    exact run_retC hpin 5 (by decide) [] rfl rfl (by simp [conj]) rfl (by simp [conj]; try decide +kernel)
  | 25, _ =>
    refine goX hB 300 rfl (by simp [conj, Fits_i64]; try decide +kernel) ?_
    exact run_retC hpin 5 (by decide) [] rfl rfl (by simp [conj]) rfl (by simp [conj]; try decide +kernel)
  | 26, _ =>
    refine goX hB 300 rfl (by simp [conj, Fits_i64]; try decide +kernel) ?_
    exact run_retC hpin 5 (by decide) [] rfl rfl (by simp [conj]) rfl (by simp [conj]; try decide +kernel)
  | 27, _ =>
    refine goX hB 300 rfl (by simp [conj, Fits_i64]; try decide +kernel) ?_
    exact run_retC hpin 5 (by decide) [] rfl rfl (by simp [conj]) rfl (by simp [conj]; try decide +kernel)
  | 28, _ =>
    refine goX hB 300 rfl (by simp [conj, Fits_i64]; try decide +kernel) ?_
    exact run_retC hpin 5 (by decide) [] rfl rfl (by simp [conj]) rfl (by simp [conj]; try decide +kernel)
  | 29, _ =>
    refine goX hB 300 rfl (by simp [conj, Fits_i64]; try decide +kernel) ?_
    exact run_retC hpin 5 (by decide) [] rfl rfl (by simp [conj]) rfl (by simp [conj]; try decide +kernel)
  | 30, _ =>
    refine goX hB 300 rfl (by simp [conj, Fits_i64]; try decide +kernel) ?_
    exact run_retC hpin 5 (by decide) [] rfl rfl (by simp [conj]) rfl (by simp [conj]; try decide +kernel)
  | 31, _ =>
    refine goX hB 300 rfl (by simp [conj, Fits_i64]; try decide +kernel) ?_
    exact run_retC hpin 5 (by decide) [] rfl rfl (by simp [conj]) rfl (by simp [conj]; try decide +kernel)
  | 32, _ =>
    refine goX hB 300 rfl (by simp [conj, Fits_i64]; try decide +kernel) ?_
    exact run_retC hpin 6 (by decide) [] rfl rfl (by simp [conj]) rfl (by simp [conj]; try decide +kernel)
  | 33, _ =>
    refine goX hB 300 rfl (by simp [conj, Fits_i64]; try decide +kernel) ?_
    exact run_retC hpin 6 (by decide) [] rfl rfl (by simp [conj]) rfl (by simp [conj]; try decide +kernel)
  | 34, _ =>
    refine goX hB 300 rfl (by simp [conj, Fits_i64]; try decide +kernel) ?_
    exact run_retC hpin 6 (by decide) [] rfl rfl (by simp [conj]) rfl (by simp [conj]; try decide +kernel)
  | 35, _ =>
    refine goX hB 300 rfl (by simp [conj, Fits_i64]; try decide +kernel) ?_
    exact run_retC hpin 6 (by decide) [] rfl rfl (by simp [conj]) rfl (by simp [conj]; try decide +kernel)
  | 36, _ =>
    refine goX hB 300 rfl (by simp [conj, Fits_i64]; try decide +kernel) ?_
    exact run_retC hpin 6 (by decide) [] rfl rfl (by simp [conj]) rfl (by simp [conj]; try decide +kernel)
  | 37, _ =>
    refine goX hB 300 rfl (by simp [conj, Fits_i64]; try decide +kernel) ?_
    exact run_retC hpin 6 (by decide) [] rfl rfl (by simp [conj]) rfl (by simp [conj]; try decide +kernel)
  | 38, _ =>
    refine goX hB 300 rfl (by simp [conj, Fits_i64]; try decide +kernel) ?_
    exact run_retC hpin 6 (by decide) [] rfl rfl (by simp [conj]) rfl (by simp [conj]; try decide +kernel)
  | 39, _ =>
    refine goX hB 300 rfl (by simp [conj, Fits_i64]; try decide +kernel) ?_
    exact run_retC hpin 6 (by decide) [] rfl rfl (by simp [conj]) rfl (by simp [conj]; try decide +kernel)
  | 40, _ =>
    refine goX hB 300 rfl (by simp [conj, Fits_i64]; try decide +kernel) ?_
    exact run_retC hpin 6 (by decide) [] rfl rfl (by simp [conj]) rfl (by simp [conj]; try decide +kernel)
  | 41, _ =>
    refine goX hB 300 rfl (by simp [conj, Fits_i64]; try decide +kernel) ?_
    exact run_retC hpin 6 (by decide) [] rfl rfl (by simp [conj]) rfl (by simp [conj]; try decide +kernel)
  | 42, _ =>
    refine goX hB 300 rfl (by simp [conj, Fits_i64]; try decide +kernel) ?_
    exact run_retC hpin 6 (by decide) [] rfl rfl (by simp [conj]) rfl (by simp [conj]; try decide +kernel)
  | 43, _ =>
    refine goX hB 300 rfl (by simp [conj, Fits_i64]; try decide +kernel) ?_
    exact run_retC hpin 6 (by decide) [] rfl rfl (by simp [conj]) rfl (by simp [conj]; try decide +kernel)
  | 44, _ =>
    refine goX hB 300 rfl (by simp [conj, Fits_i64]; try decide +kernel) ?_
    exact run_retC hpin 6 (by decide) [] rfl rfl (by simp [conj]) rfl (by simp [conj]; try decide +kernel)
  | 45, _ =>
    refine goX hB 300 rfl (by simp [conj, Fits_i64]; try decide +kernel) ?_
    exact run_retC hpin 6 (by decide) [] rfl rfl (by simp [conj]) rfl (by simp [conj]; try decide +kernel)
  | 46, _ =>
    refine goX hB 300 rfl (by simp [conj, Fits_i64]; try decide +kernel) ?_
    exact run_retC hpin 6 (by decide) [] rfl rfl (by simp [conj]) rfl (by simp [conj]; try decide +kernel)
  | 47, _ =>
    refine goX hB 300 rfl (by simp [conj, Fits_i64]; try decide +kernel) ?_
    exact run_retC hpin 6 (by decide) [] rfl rfl (by simp [conj]) rfl (by simp [conj]; try decide +kernel)
  | 48, _ =>
    refine goX hB 300 rfl (by simp [conj, Fits_i64]; try decide +kernel) ?_
    exact run_retC hpin 6 (by decide) [] rfl rfl (by simp [conj]) rfl (by simp [conj]; try decide +kernel)
  | 49, _ =>
    refine goX hB 300 rfl (by simp [conj, Fits_i64]; try decide +kernel) ?_
    exact run_retC hpin 6 (by decide) [] rfl rfl (by simp [conj]) rfl (by simp [conj]; try decide +kernel)
  | 50, _ =>
    refine goX hB 300 rfl (by simp [conj, Fits_i64]; try decide +kernel) ?_
    exact run_retC hpin 6 (by decide) [] rfl rfl (by simp [conj]) rfl (by simp [conj]; try decide +kernel)
  | 51, _ =>
    refine goX hB 300 rfl (by simp [conj, Fits_i64]; try decide +kernel) ?_
    exact run_retC hpin 6 (by decide) [] rfl rfl (by simp [conj]) rfl (by simp [conj]; try decide +kernel)
  | 52, _ =>
    refine goX hB 300 rfl (by simp [conj, Fits_i64]; try decide +kernel) ?_
    exact run_retC hpin 6 (by decide) [] rfl rfl (by simp [conj]) rfl (by simp [conj]; try decide +kernel)
  | 53, _ =>
    refine goX hB 300 rfl (by simp [conj, Fits_i64]; try decide +kernel) ?_
    exact run_retC hpin 6 (by decide) [] rfl rfl (by simp [conj]) rfl (by simp [conj]; try decide +kernel)
  | 54, _ =>
    refine goX hB 300 rfl (by simp [conj, Fits_i64]; try decide +kernel) ?_
    exact run_retC hpin 6 (by decide) [] rfl rfl (by simp [conj]) rfl (by simp [conj]; try decide +kernel)
  | 55, _ =>
    refine goX hB 300 rfl (by simp [conj, Fits_i64]; try decide +kernel) ?_
    exact run_retC hpin 6 (by decide) [] rfl rfl (by simp [conj]) rfl (by simp [conj]; try decide +kernel)
  | 56, _ =>
    refine goX hB 300 rfl (by simp [conj, Fits_i64]; try decide +kernel) ?_
    exact run_retC hpin 6 (by decide) [] rfl rfl (by simp [conj]) rfl (by simp [conj]; try decide +kernel)
  | 57, _ =>
    refine goX hB 300 rfl (by simp [conj, Fits_i64]; try decide +kernel) ?_
    exact run_retC hpin 6 (by decide) [] rfl rfl (by simp [conj]) rfl (by simp [conj]; try decide +kernel)
  | 58, _ =>
    refine goX hB 300 rfl (by simp [conj, Fits_i64]; try decide +kernel) ?_
    exact run_retC hpin 6 (by decide) [] rfl rfl (by simp [conj]) rfl (by simp [conj]; try decide +kernel)
  | 59, _ =>
    refine goX hB 300 rfl (by simp [conj, Fits_i64]; try decide +kernel) ?_
    exact run_retC hpin 6 (by decide) [] rfl rfl (by simp [conj]) rfl (by simp [conj]; try decide +kernel)
  | 60, _ =>
    refine goX hB 300 rfl (by simp [conj, Fits_i64]; try decide +kernel) ?_
    exact run_retC hpin 6 (by decide) [] rfl rfl (by simp [conj]) rfl (by simp [conj]; try decide +kernel)
  | 61, _ =>
    refine goX hB 300 rfl (by simp [conj, Fits_i64]; try decide +kernel) ?_
    exact run_retC hpin 6 (by decide) [] rfl rfl (by simp [conj]) rfl (by simp [conj]; try decide +kernel)
  | 62, _ =>
    refine goX hB 300 rfl (by simp [conj, Fits_i64]; try decide +kernel) ?_
    exact run_retC hpin 6 (by decide) [] rfl rfl (by simp [conj]) rfl (by simp [conj]; try decide +kernel)
  | 63, _ =>
    refine goX hB 300 rfl (by simp [conj, Fits_i64]; try decide +kernel) ?_
    exact run_retC hpin 6 (by decide) [] rfl rfl (by simp [conj]) rfl (by simp [conj]; try decide +kernel)
  | 64, _ =>
    refine goX hB 300 rfl (by simp [conj, Fits_i64]; try decide +kernel) ?_
    exact run_retC hpin 7 (by decide) [] rfl rfl (by simp [conj]) rfl (by simp [conj]; try decide +kernel)
  | 65, _ =>
    refine goX hB 300 rfl (by simp [conj, Fits_i64]; try decide +kernel) ?_
    exact run_retC hpin 7 (by decide) [] rfl rfl (by simp [conj]) rfl (by simp [conj]; try decide +kernel)
  | 66, _ =>
    refine goX hB 300 rfl (by simp [conj, Fits_i64]; try decide +kernel) ?_
    exact run_retC hpin 7 (by decide) [] rfl rfl (by simp [conj]) rfl (by simp [conj]; try decide +kernel)
  | 67, _ =>
    refine goX hB 300 rfl (by simp [conj, Fits_i64]; try decide +kernel) ?_
    exact run_retC hpin 7 (by decide) [] rfl rfl (by simp [conj]) rfl (by simp [conj]; try decide +kernel)
  | 68, _ =>
    refine goX hB 300 rfl (by simp [conj, Fits_i64]; try decide +kernel) ?_
    exact run_retC hpin 7 (by decide) [] rfl rfl (by simp [conj]) rfl (by simp [conj]; try decide +kernel)
  | 69, _ =>
    refine goX hB 300 rfl (by simp [conj, Fits_i64]; try decide +kernel) ?_
    exact run_retC hpin 7 (by decide) [] rfl rfl (by simp [conj]) rfl (by simp [conj]; try decide +kernel)
  | 70, _ =>
    refine goX hB 300 rfl (by simp [conj, Fits_i64]; try decide +kernel) ?_
    exact run_retC hpin 7 (by decide) [] rfl rfl (by simp [conj]) rfl (by simp [conj]; try decide +kernel)
  | 71, _ =>
    refine goX hB 300 rfl (by simp [conj, Fits_i64]; try decide +kernel) ?_
    exact run_retC hpin 7 (by decide) [] rfl rfl (by simp [conj]) rfl (by simp [conj]; try decide +kernel)
  | 72, _ =>
    refine goX hB 300 rfl (by simp [conj, Fits_i64]; try decide +kernel) ?_
    exact run_retC hpin 7 (by decide) [] rfl rfl (by simp [conj]) rfl (by simp [conj]; try decide +kernel)
  | 73, _ =>
    refine goX hB 300 rfl (by simp [conj, Fits_i64]; try decide +kernel) ?_
    exact run_retC hpin 7 (by decide) [] rfl rfl (by simp [conj]) rfl (by simp [conj]; try decide +kernel)
  | 74, _ =>
    refine goX hB 300 rfl (by simp [conj, Fits_i64]; try decide +kernel) ?_
    exact run_retC hpin 7 (by decide) [] rfl rfl (by simp [conj]) rfl (by simp [conj]; try decide +kernel)
  | 75, _ =>
    refine goX hB 300 rfl (by simp [conj, Fits_i64]; try decide +kernel) ?_
    exact run_retC hpin 7 (by decide) [] rfl rfl (by simp [conj]) rfl (by simp [conj]; try decide +kernel)
  | 76, _ =>
    refine goX hB 300 rfl (by simp [conj, Fits_i64]; try decide +kernel) ?_
    exact run_retC hpin 7 (by decide) [] rfl rfl (by simp [conj]) rfl (by simp [conj]; try decide +kernel)
  | 77, _ =>
    refine goX hB 300 rfl (by simp [conj, Fits_i64]; try decide +kernel) ?_
    exact run_retC hpin 7 (by decide) [] rfl rfl (by simp [conj]) rfl (by simp [conj]; try decide +kernel)
  | 78, _ =>
    refine goX hB 300 rfl (by simp [conj, Fits_i64]; try decide +kernel) ?_
    exact run_retC hpin 7 (by decide) [] rfl rfl (by simp [conj]) rfl (by simp [conj]; try decide +kernel)
  | 79, _ =>
    refine goX hB 300 rfl (by simp [conj, Fits_i64]; try decide +kernel) ?_
    exact run_retC hpin 7 (by decide) [] rfl rfl (by simp [conj]) rfl (by simp [conj]; try decide +kernel)
  | 80, _ =>
    refine goX hB 300 rfl (by simp [conj, Fits_i64]; try decide +kernel) ?_
    exact run_retC hpin 7 (by decide) [] rfl rfl (by simp [conj]) rfl (by simp [conj]; try decide +kernel)
  | 81, _ =>
    refine goX hB 300 rfl (by simp [conj, Fits_i64]; try decide +kernel) ?_
    exact run_retC hpin 7 (by decide) [] rfl rfl (by simp [conj]) rfl (by simp [conj]; try decide +kernel)
  | 82, _ =>
    refine goX hB 300 rfl (by simp [conj, Fits_i64]; try decide +kernel) ?_
    exact run_retC hpin 7 (by decide) [] rfl rfl (by simp [conj]) rfl (by simp [conj]; try decide +kernel)
  | 83, _ =>
    refine goX hB 300 rfl (by simp [conj, Fits_i64]; try decide +kernel) ?_
    exact run_retC hpin 7 (by decide) [] rfl rfl (by simp [conj]) rfl (by simp [conj]; try decide +kernel)
  | 84, _ =>
    refine goX hB 300 rfl (by simp [conj, Fits_i64]; try decide +kernel) ?_
    exact run_retC hpin 7 (by decide) [] rfl rfl (by simp [conj]) rfl (by simp [conj]; try decide +kernel)
  | 85, _ =>
    refine goX hB 300 rfl (by simp [conj, Fits_i64]; try decide +kernel) ?_
    exact run_retC hpin 7 (by decide) [] rfl rfl (by simp [conj]) rfl (by simp [conj]; try decide +kernel)
  | 86, _ =>
    refine goX hB 300 rfl (by simp [conj, Fits_i64]; try decide +kernel) ?_
    exact run_retC hpin 7 (by decide) [] rfl rfl (by simp [conj]) rfl (by simp [conj]; try decide +kernel)
  | 87, _ =>
    refine goX hB 300 rfl (by simp [conj, Fits_i64]; try decide +kernel) ?_
    exact run_retC hpin 7 (by decide) [] rfl rfl (by simp [conj]) rfl (by simp [conj]; try decide +kernel)
  | 88, _ =>
    refine goX hB 300 rfl (by simp [conj, Fits_i64]; try decide +kernel) ?_
    exact run_retC hpin 7 (by decide) [] rfl rfl (by simp [conj]) rfl (by simp [conj]; try decide +kernel)
  | 89, _ =>
    refine goX hB 300 rfl (by simp [conj, Fits_i64]; try decide +kernel) ?_
    exact run_retC hpin 7 (by decide) [] rfl rfl (by simp [conj]) rfl (by simp [conj]; try decide +kernel)
  | 90, _ =>
    refine goX hB 300 rfl (by simp [conj, Fits_i64]; try decide +kernel) ?_
    exact run_retC hpin 7 (by decide) [] rfl rfl (by simp [conj]) rfl (by simp [conj]; try decide +kernel)
  | 91, _ =>
    refine goX hB 300 rfl (by simp [conj, Fits_i64]; try decide +kernel) ?_
    exact run_retC hpin 7 (by decide) [] rfl rfl (by simp [conj]) rfl (by simp [conj]; try decide +kernel)
  | 92, _ =>
    refine goX hB 300 rfl (by simp [conj, Fits_i64]; try decide +kernel) ?_
    exact run_retC hpin 7 (by decide) [] rfl rfl (by simp [conj]) rfl (by simp [conj]; try decide +kernel)
  | 93, _ =>
    refine goX hB 300 rfl (by simp [conj, Fits_i64]; try decide +kernel) ?_
    exact run_retC hpin 7 (by decide) [] rfl rfl (by simp [conj]) rfl (by simp [conj]; try decide +kernel)
  | 94, _ =>
    refine goX hB 300 rfl (by simp [conj, Fits_i64]; try decide +kernel) ?_
    exact run_retC hpin 7 (by decide) [] rfl rfl (by simp [conj]) rfl (by simp [conj]; try decide +kernel)
  | 95, _ =>
    refine goX hB 300 rfl (by simp [conj, Fits_i64]; try decide +kernel) ?_
    exact run_retC hpin 7 (by decide) [] rfl rfl (by simp [conj]) rfl (by simp [conj]; try decide +kernel)
  | 96, _ =>
    refine goX hB 300 rfl (by simp [conj, Fits_i64]; try decide +kernel) ?_
    exact run_retC hpin 7 (by decide) [] rfl rfl (by simp [conj]) rfl (by simp [conj]; try decide +kernel)
  | 97, _ =>
    refine goX hB 300 rfl (by simp [conj, Fits_i64]; try decide +kernel) ?_
    exact run_retC hpin 7 (by decide) [] rfl rfl (by simp [conj]) rfl (by simp [conj]; try decide +kernel)
  | 98, _ =>
    refine goX hB 300 rfl (by simp [conj, Fits_i64]; try decide +kernel) ?_
    exact run_retC hpin 7 (by decide) [] rfl rfl (by simp [conj]) rfl (by simp [conj]; try decide +kernel)
  | 99, _ =>
    refine goX hB 300 rfl (by simp [conj, Fits_i64]; try decide +kernel) ?_
    exact run_retC hpin 7 (by decide) [] rfl rfl (by simp [conj]) rfl (by simp [conj]; try decide +kernel)
  | 100, _ =>
    refine goX hB 300 rfl (by simp [conj, Fits_i64]; try decide +kernel) ?_
    exact run_retC hpin 7 (by decide) [] rfl rfl (by simp [conj]) rfl (by simp [conj]; try decide +kernel)
  | 101, _ =>
    refine goX hB 300 rfl (by simp [conj, Fits_i64]; try decide +kernel) ?_
    exact run_retC hpin 7 (by decide) [] rfl rfl (by simp [conj]) rfl (by simp [conj]; try decide +kernel)
  | 102, _ =>
    refine goX hB 300 rfl (by simp [conj, Fits_i64]; try decide +kernel) ?_
    exact run_retC hpin 7 (by decide) [] rfl rfl (by simp [conj]) rfl (by simp [conj]; try decide +kernel)
  | 103, _ =>
    refine goX hB 300 rfl (by simp [conj, Fits_i64]; try decide +kernel) ?_
    exact run_retC hpin 7 (by decide) [] rfl rfl (by simp [conj]) rfl (by simp [conj]; try decide +kernel)
  | 104, _ =>
    refine goX hB 300 rfl (by simp [conj, Fits_i64]; try decide +kernel) ?_
    exact run_retC hpin 7 (by decide) [] rfl rfl (by simp [conj]) rfl (by simp [conj]; try decide +kernel)
  | 105, _ =>
    refine goX hB 300 rfl (by simp [conj, Fits_i64]; try decide +kernel) ?_
    exact run_retC hpin 7 (by decide) [] rfl rfl (by simp [conj]) rfl (by simp [conj]; try decide +kernel)
  | 106, _ =>
    refine goX hB 300 rfl (by simp [conj, Fits_i64]; try decide +kernel) ?_
    exact run_retC hpin 7 (by decide) [] rfl rfl (by simp [conj]) rfl (by simp [conj]; try decide +kernel)
  | 107, _ =>
    refine goX hB 300 rfl (by simp [conj, Fits_i64]; try decide +kernel) ?_
    exact run_retC hpin 7 (by decide) [] rfl rfl (by simp [conj]) rfl (by simp [conj]; try decide +kernel)
  | 108, _ =>
    refine goX hB 300 rfl (by simp [conj, Fits_i64]; try decide +kernel) ?_
    exact run_retC hpin 7 (by decide) [] rfl rfl (by simp [conj]) rfl (by simp [conj]; try decide +kernel)
  | 109, _ =>
    refine goX hB 300 rfl (by simp [conj, Fits_i64]; try decide +kernel) ?_
    exact run_retC hpin 7 (by decide) [] rfl rfl (by simp [conj]) rfl (by simp [conj]; try decide +kernel)
  | 110, _ =>
    refine goX hB 300 rfl (by simp [conj, Fits_i64]; try decide +kernel) ?_
    exact run_retC hpin 7 (by decide) [] rfl rfl (by simp [conj]) rfl (by simp [conj]; try decide +kernel)
  | 111, _ =>
    refine goX hB 300 rfl (by simp [conj, Fits_i64]; try decide +kernel) ?_
    exact run_retC hpin 7 (by decide) [] rfl rfl (by simp [conj]) rfl (by simp [conj]; try decide +kernel)
  | 112, _ =>
    refine goX hB 300 rfl (by simp [conj, Fits_i64]; try decide +kernel) ?_
    exact run_retC hpin 7 (by decide) [] rfl rfl (by simp [conj]) rfl (by simp [conj]; try decide +kernel)
  | 113, _ =>
    refine goX hB 300 rfl (by simp [conj, Fits_i64]; try decide +kernel) ?_
    exact run_retC hpin 7 (by decide) [] rfl rfl (by simp [conj]) rfl (by simp [conj]; try decide +kernel)
  | 114, _ =>
    refine goX hB 300 rfl (by simp [conj, Fits_i64]; try decide +kernel) ?_
    exact run_retC hpin 7 (by decide) [] rfl rfl (by simp [conj]) rfl (by simp [conj]; try decide +kernel)
  | 115, _ =>
    refine goX hB 300 rfl (by simp [conj, Fits_i64]; try decide +kernel) ?_
    exact run_retC hpin 7 (by decide) [] rfl rfl (by simp [conj]) rfl (by simp [conj]; try decide +kernel)
  | 116, _ =>
    refine goX hB 300 rfl (by simp [conj, Fits_i64]; try decide +kernel) ?_
    exact run_retC hpin 7 (by decide) [] rfl rfl (by simp [conj]) rfl (by simp [conj]; try decide +kernel)
  | 117, _ =>
    refine goX hB 300 rfl (by simp [conj, Fits_i64]; try decide +kernel) ?_
    exact run_retC hpin 7 (by decide) [] rfl rfl (by simp [conj]) rfl (by simp [conj]; try decide +kernel)
  | 118, _ =>
    refine goX hB 300 rfl (by simp [conj, Fits_i64]; try decide +kernel) ?_
    exact run_retC hpin 7 (by decide) [] rfl rfl (by simp [conj]) rfl (by simp [conj]; try decide +kernel)
  | 119, _ =>
    refine goX hB 300 rfl (by simp [conj, Fits_i64]; try decide +kernel) ?_
    exact run_retC hpin 7 (by decide) [] rfl rfl (by simp [conj]) rfl (by simp [conj]; try decide +kernel)
  | 120, _ =>
    refine goX hB 300 rfl (by simp [conj, Fits_i64]; try decide +kernel) ?_
    exact run_retC hpin 7 (by decide) [] rfl rfl (by simp [conj]) rfl (by simp [conj]; try decide +kernel)
  | 121, _ =>
    refine goX hB 300 rfl (by simp [conj, Fits_i64]; try decide +kernel) ?_
    exact run_retC hpin 7 (by decide) [] rfl rfl (by simp [conj]) rfl (by simp [conj]; try decide +kernel)
  | 122, _ =>
    refine goX hB 300 rfl (by simp [conj, Fits_i64]; try decide +kernel) ?_
    exact run_retC hpin 7 (by decide) [] rfl rfl (by simp [conj]) rfl (by simp [conj]; try decide +kernel)
  | 123, _ =>
    refine goX hB 300 rfl (by simp [conj, Fits_i64]; try decide +kernel) ?_
    exact run_retC hpin 7 (by decide) [] rfl rfl (by simp [conj]) rfl (by simp [conj]; try decide +kernel)
  | 124, _ =>
    refine goX hB 300 rfl (by simp [conj, Fits_i64]; try decide +kernel) ?_
    exact run_retC hpin 7 (by decide) [] rfl rfl (by simp [conj]) rfl (by simp [conj]; try decide +kernel)
  | 125, _ =>
    refine goX hB 300 rfl (by simp [conj, Fits_i64]; try decide +kernel) ?_
    exact run_retC hpin 7 (by decide) [] rfl rfl (by simp [conj]) rfl (by simp [conj]; try decide +kernel)
  | 126, _ =>
    refine goX hB 300 rfl (by simp [conj, Fits_i64]; try decide +kernel) ?_
    exact run_retC hpin 7 (by decide) [] rfl rfl (by simp [conj]) rfl (by simp [conj]; try decide +kernel)
  | 127, _ =>
    refine goX hB 300 rfl (by simp [conj, Fits_i64]; try decide +kernel) ?_
    exact run_retC hpin 7 (by decide) [] rfl rfl (by simp [conj]) rfl (by simp [conj]; try decide +kernel)
  | 128, _ =>
    refine goX hB 300 rfl (by simp [conj, Fits_i64]; try decide +kernel) ?_
    exact run_retC hpin 8 (by decide) [] rfl rfl (by simp [conj]) rfl (by simp [conj]; try decide +kernel)
  | y + 129, h => exact absurd h (by omega)
end Sx
