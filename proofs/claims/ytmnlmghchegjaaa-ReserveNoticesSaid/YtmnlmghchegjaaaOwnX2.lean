/- Texts of this law, joined: what the functions do. Conditions: as each theorem says. -/
import Derived.Test.YtmnlmghchegjaaaOwnX1
set_option linter.unusedSimpArgs false
set_option linter.unusedVariables false
section
/- bits.Len of a byte, nextPowerOfTwo, breakPatternsOrdered. Conditions: as each theorem says. -/
namespace Sx
open Go Go.Proofs
set_option maxRecDepth 100000
set_option maxHeartbeats 20000000 in
theorem len_hc (x : Nat) (hx : x < 129) : HC Try.prog 89 [u64 x] [] [] 0 (fun l : Nat => l ≤ 8 ∧ x < 2 ^ l ∧ (0 < x → 2 ^ l ≤ 2 * x)) (fun l => ⟨i64 l, [], 0⟩) := by
  refine hc_of_run Try.func89 rfl (fun B hB hpin => ?_)
  refine goS hB rfl rfl (by simp [conj]) ?_
  refine run_condF rfl (by simp; omega) ?_
  refine goS hB rfl rfl (by simp [conj]) ?_
  refine run_condF rfl (by simp; omega) ?_
  refine goS hB rfl rfl (by simp [conj]) ?_
  refine run_condF rfl (by simp; omega) ?_
  match x, hx with
  | 0, _ =>
    refine goX hB 300 rfl (by simp [conj, Fits_i64]; try decide +kernel) ?_
    exact run_retC hpin 0 (by decide) [] rfl rfl (by simp [conj]) rfl (by simp [conj]; try decide +kernel)
  | 1, _ =>
    refine goX hB 300 rfl (by simp [conj, Fits_i64]; try decide +kernel) ?_
    exact run_retC hpin 1 (by decide) [] rfl rfl (by simp [conj]) rfl (by simp [conj]; try decide +kernel)
  | 2, _ =>
    refine goX hB 300 rfl (by simp [conj, Fits_i64]; try decide +kernel) ?_
    exact run_retC hpin 2 (by decide) [] rfl rfl (by simp [conj]) rfl (by simp [conj]; try decide +kernel)
  | 3, _ =>
    refine goX hB 300 rfl (by simp [conj, Fits_i64]; try decide +kernel) ?_
    exact run_retC hpin 2 (by decide) [] rfl rfl (by simp [conj]) rfl (by simp [conj]; try decide +kernel)
  | 4, _ =>
    refine goX hB 300 rfl (by simp [conj, Fits_i64]; try decide +kernel) ?_
    exact run_retC hpin 3 (by decide) [] rfl rfl (by simp [conj]) rfl (by simp [conj]; try decide +kernel)
  | 5, _ =>
    refine goX hB 300 rfl (by simp [conj, Fits_i64]; try decide +kernel) ?_
    exact run_retC hpin 3 (by decide) [] rfl rfl (by simp [conj]) rfl (by simp [conj]; try decide +kernel)
  | 6, _ =>
    refine goX hB 300 rfl (by simp [conj, Fits_i64]; try decide +kernel) ?_
    exact run_retC hpin 3 (by decide) [] rfl rfl (by simp [conj]) rfl (by simp [conj]; try decide +kernel)
  | 7, _ =>
    refine goX hB 300 rfl (by simp [conj, Fits_i64]; try decide +kernel) ?_
    exact run_retC hpin 3 (by decide) [] rfl rfl (by simp [conj]) rfl (by simp [conj]; try decide +kernel)
  | 8, _ =>
    refine goX hB 300 rfl (by simp [conj, Fits_i64]; try decide +kernel) ?_
    exact run_retC hpin 4 (by decide) [] rfl rfl (by simp [conj]) rfl (by simp [conj]; try decide +kernel)
  | 9, _ =>
    refine goX hB 300 rfl (by simp [conj, Fits_i64]; try decide +kernel) ?_
    exact run_retC hpin 4 (by decide) [] rfl rfl (by simp [conj]) rfl (by simp [conj]; try decide +kernel)
  | 10, _ =>
    refine goX hB 300 rfl (by simp [conj, Fits_i64]; try decide +kernel) ?_
    exact run_retC hpin 4 (by decide) [] rfl rfl (by simp [conj]) rfl (by simp [conj]; try decide +kernel)
  | 11, _ =>
    refine goX hB 300 rfl (by simp [conj, Fits_i64]; try decide +kernel) ?_
    exact run_retC hpin 4 (by decide) [] rfl rfl (by simp [conj]) rfl (by simp [conj]; try decide +kernel)
  | 12, _ =>
    refine goX hB 300 rfl (by simp [conj, Fits_i64]; try decide +kernel) ?_
    exact run_retC hpin 4 (by decide) [] rfl rfl (by simp [conj]) rfl (by simp [conj]; try decide +kernel)
  | 13, _ =>
    refine goX hB 300 rfl (by simp [conj, Fits_i64]; try decide +kernel) ?_
    exact run_retC hpin 4 (by decide) [] rfl rfl (by simp [conj]) rfl (by simp [conj]; try decide +kernel)
  | 14, _ =>
    refine goX hB 300 rfl (by simp [conj, Fits_i64]; try decide +kernel) ?_
    exact run_retC hpin 4 (by decide) [] rfl rfl (by simp [conj]) rfl (by simp [conj]; try decide +kernel)
  | 15, _ =>
    refine goX hB 300 rfl (by simp [conj, Fits_i64]; try decide +kernel) ?_
    exact run_retC hpin 4 (by decide) [] rfl rfl (by simp [conj]) rfl (by simp [conj]; try decide +kernel)
  | 16, _ =>
    refine goX hB 300 rfl (by simp [conj, Fits_i64]; try decide +kernel) ?_
    exact run_retC hpin 5 (by decide) [] rfl rfl (by simp [conj]) rfl (by simp [conj]; try decide +kernel)
  | 17, _ =>
    refine goX hB 300 rfl (by simp [conj, Fits_i64]; try decide +kernel) ?_
    exact run_retC hpin 5 (by decide) [] rfl rfl (by simp [conj]) rfl (by simp [conj]; try decide +kernel)
  | 18, _ =>
    refine goX hB 300 rfl (by simp [conj, Fits_i64]; try decide +kernel) ?_
    exact run_retC hpin 5 (by decide) [] rfl rfl (by simp [conj]) rfl (by simp [conj]; try decide +kernel)
  | 19, _ =>
    refine goX hB 300 rfl (by simp [conj, Fits_i64]; try decide +kernel) ?_
    exact run_retC hpin 5 (by decide) [] rfl rfl (by simp [conj]) rfl (by simp [conj]; try decide +kernel)
  | 20, _ =>
    refine goX hB 300 rfl (by simp [conj, Fits_i64]; try decide +kernel) ?_
    exact run_retC hpin 5 (by decide) [] rfl rfl (by simp [conj]) rfl (by simp [conj]; try decide +kernel)
  | 21, _ =>
    refine goX hB 300 rfl (by simp [conj, Fits_i64]; try decide +kernel) ?_
    exact run_retC hpin 5 (by decide) [] rfl rfl (by simp [conj]) rfl (by simp [conj]; try decide +kernel)
  | 22, _ =>
    refine goX hB 300 rfl (by simp [conj, Fits_i64]; try decide +kernel) ?_
    exact run_retC hpin 5 (by decide) [] rfl rfl (by simp [conj]) rfl (by simp [conj]; try decide +kernel)
  | 23, _ =>
    refine goX hB 300 rfl (by simp [conj, Fits_i64]; try decide +kernel) ?_
    exact run_retC hpin 5 (by decide) [] rfl rfl (by simp [conj]) rfl (by simp [conj]; try decide +kernel)
  | 24, _ =>
    refine goX hB 300 rfl (by simp [conj, Fits_i64]; try decide +kernel) ?_
    exact run_retC hpin 5 (by decide) [] rfl rfl (by simp [conj]) rfl (by simp [conj]; try decide +kernel)
  | 25, _ =>
    refine goX hB 300 rfl (by simp [conj, Fits_i64]; try decide +kernel) ?_
    exact run_retC hpin 5 (by decide) [] rfl rfl (by simp [conj]) rfl (by simp [conj]; try decide +kernel)
  | 26, _ =>
    refine goX hB 300 rfl (by simp [conj, Fits_i64]; try decide +kernel) ?_
    exact run_retC hpin 5 (by decide) [] rfl rfl (by simp [conj]) rfl (by simp [conj]; try decide +kernel)
  | 27, _ =>
    refine goX hB 300 rfl (by simp [conj, Fits_i64]; try decide +kernel) ?_
    exact run_retC hpin 5 (by decide) [] rfl rfl (by simp [conj]) rfl (by simp [conj]; try decide +kernel)
  | 28, _ =>
    refine goX hB 300 rfl (by simp [conj, Fits_i64]; try decide +kernel) ?_
    exact run_retC hpin 5 (by decide) [] rfl rfl (by simp [conj]) rfl (by simp [conj]; try decide +kernel)
  | 29, _ =>
    refine goX hB 300 rfl (by simp [conj, Fits_i64]; try decide +kernel) ?_
    exact run_retC hpin 5 (by decide) [] rfl rfl (by simp [conj]) rfl (by simp [conj]; try decide +kernel)
  | 30, _ =>
    refine goX hB 300 rfl (by simp [conj, Fits_i64]; try decide +kernel) ?_
    exact run_retC hpin 5 (by decide) [] rfl rfl (by simp [conj]) rfl (by simp [conj]; try decide +kernel)
  | 31, _ =>
    refine goX hB 300 rfl (by simp [conj, Fits_i64]; try decide +kernel) ?_
    exact run_retC hpin 5 (by decide) [] rfl rfl (by simp [conj]) rfl (by simp [conj]; try decide +kernel)
  | 32, _ =>
    refine goX hB 300 rfl (by simp [conj, Fits_i64]; try decide +kernel) ?_
    exact run_retC hpin 6 (by decide) [] rfl rfl (by simp [conj]) rfl (by simp [conj]; try decide +kernel)
  | 33, _ =>
    refine goX hB 300 rfl (by simp [conj, Fits_i64]; try decide +kernel) ?_
    exact run_retC hpin 6 (by decide) [] rfl rfl (by simp [conj]) rfl (by simp [conj]; try decide +kernel)
  | 34, _ =>
    refine goX hB 300 rfl (by simp [conj, Fits_i64]; try decide +kernel) ?_
    exact run_retC hpin 6 (by decide) [] rfl rfl (by simp [conj]) rfl (by simp [conj]; try decide +kernel)
  | 35, _ =>
    refine goX hB 300 rfl (by simp [conj, Fits_i64]; try decide +kernel) ?_
    exact run_retC hpin 6 (by decide) [] rfl rfl (by simp [conj]) rfl (by simp [conj]; try decide +kernel)
  | 36, _ =>
    refine goX hB 300 rfl (by simp [conj, Fits_i64]; try decide +kernel) ?_
    exact run_retC hpin 6 (by decide) [] rfl rfl (by simp [conj]) rfl (by simp [conj]; try decide +kernel)
  | 37, _ =>
    refine goX hB 300 rfl (by simp [conj, Fits_i64]; try decide +kernel) ?_
    exact run_retC hpin 6 (by decide) [] rfl rfl (by simp [conj]) rfl (by simp [conj]; try decide +kernel)
  | 38, _ =>
    refine goX hB 300 rfl (by simp [conj, Fits_i64]; try decide +kernel) ?_
    exact run_retC hpin 6 (by decide) [] rfl rfl (by simp [conj]) rfl (by simp [conj]; try decide +kernel)
  | 39, _ =>
    refine goX hB 300 rfl (by simp [conj, Fits_i64]; try decide +kernel) ?_
    exact run_retC hpin 6 (by decide) [] rfl rfl (by simp [conj]) rfl (by simp [conj]; try decide +kernel)
  | 40, _ =>
    refine goX hB 300 rfl (by simp [conj, Fits_i64]; try decide +kernel) ?_
    exact run_retC hpin 6 (by decide) [] rfl rfl (by simp [conj]) rfl (by simp [conj]; try decide +kernel)
  | 41, _ =>
    refine goX hB 300 rfl (by simp [conj, Fits_i64]; try decide +kernel) ?_
    exact run_retC hpin 6 (by decide) [] rfl rfl (by simp [conj]) rfl (by simp [conj]; try decide +kernel)
  | 42, _ =>
    refine goX hB 300 rfl (by simp [conj, Fits_i64]; try decide +kernel) ?_
    exact run_retC hpin 6 (by decide) [] rfl rfl (by simp [conj]) rfl (by simp [conj]; try decide +kernel)
  | 43, _ =>
    refine goX hB 300 rfl (by simp [conj, Fits_i64]; try decide +kernel) ?_
    exact run_retC hpin 6 (by decide) [] rfl rfl (by simp [conj]) rfl (by simp [conj]; try decide +kernel)
  | 44, _ =>
    refine goX hB 300 rfl (by simp [conj, Fits_i64]; try decide +kernel) ?_
    exact run_retC hpin 6 (by decide) [] rfl rfl (by simp [conj]) rfl (by simp [conj]; try decide +kernel)
  | 45, _ =>
    refine goX hB 300 rfl (by simp [conj, Fits_i64]; try decide +kernel) ?_
    exact run_retC hpin 6 (by decide) [] rfl rfl (by simp [conj]) rfl (by simp [conj]; try decide +kernel)
  | 46, _ =>
    refine goX hB 300 rfl (by simp [conj, Fits_i64]; try decide +kernel) ?_
    exact run_retC hpin 6 (by decide) [] rfl rfl (by simp [conj]) rfl (by simp [conj]; try decide +kernel)
  | 47, _ =>
    refine goX hB 300 rfl (by simp [conj, Fits_i64]; try decide +kernel) ?_
    exact run_retC hpin 6 (by decide) [] rfl rfl (by simp [conj]) rfl (by simp [conj]; try decide +kernel)
  | 48, _ =>
    refine goX hB 300 rfl (by simp [conj, Fits_i64]; try decide +kernel) ?_
    exact run_retC hpin 6 (by decide) [] rfl rfl (by simp [conj]) rfl (by simp [conj]; try decide +kernel)
  | 49, _ =>
    refine goX hB 300 rfl (by simp [conj, Fits_i64]; try decide +kernel) ?_
    exact run_retC hpin 6 (by decide) [] rfl rfl (by simp [conj]) rfl (by simp [conj]; try decide +kernel)
  | 50, _ =>
    refine goX hB 300 rfl (by simp [conj, Fits_i64]; try decide +kernel) ?_
    exact run_retC hpin 6 (by decide) [] rfl rfl (by simp [conj]) rfl (by simp [conj]; try decide +kernel)
  | 51, _ =>
    refine goX hB 300 rfl (by simp [conj, Fits_i64]; try decide +kernel) ?_
    exact run_retC hpin 6 (by decide) [] rfl rfl (by simp [conj]) rfl (by simp [conj]; try decide +kernel)
  | 52, _ =>
    refine goX hB 300 rfl (by simp [conj, Fits_i64]; try decide +kernel) ?_
    exact run_retC hpin 6 (by decide) [] rfl rfl (by simp [conj]) rfl (by simp [conj]; try decide +kernel)
  | 53, _ =>
    refine goX hB 300 rfl (by simp [conj, Fits_i64]; try decide +kernel) ?_
    exact run_retC hpin 6 (by decide) [] rfl rfl (by simp [conj]) rfl (by simp [conj]; try decide +kernel)
  | 54, _ =>
    refine goX hB 300 rfl (by simp [conj, Fits_i64]; try decide +kernel) ?_
    exact run_retC hpin 6 (by decide) [] rfl rfl (by simp [conj]) rfl (by simp [conj]; try decide +kernel)
  | 55, _ =>
    refine goX hB 300 rfl (by simp [conj, Fits_i64]; try decide +kernel) ?_
    exact run_retC hpin 6 (by decide) [] rfl rfl (by simp [conj]) rfl (by simp [conj]; try decide +kernel)
  | 56, _ =>
    refine goX hB 300 rfl (by simp [conj, Fits_i64]; try decide +kernel) ?_
    exact run_retC hpin 6 (by decide) [] rfl rfl (by simp [conj]) rfl (by simp [conj]; try decide +kernel)
  | 57, _ =>
    refine goX hB 300 rfl (by simp [conj, Fits_i64]; try decide +kernel) ?_
    exact run_retC hpin 6 (by decide) [] rfl rfl (by simp [conj]) rfl (by simp [conj]; try decide +kernel)
  | 58, _ =>
    refine goX hB 300 rfl (by simp [conj, Fits_i64]; try decide +kernel) ?_
    exact run_retC hpin 6 (by decide) [] rfl rfl (by simp [conj]) rfl (by simp [conj]; try decide +kernel)
  | 59, _ =>
    refine goX hB 300 rfl (by simp [conj, Fits_i64]; try decide +kernel) ?_
    exact run_retC hpin 6 (by decide) [] rfl rfl (by simp [conj]) rfl (by simp [conj]; try decide +kernel)
  | 60, _ =>
    refine goX hB 300 rfl (by simp [conj, Fits_i64]; try decide +kernel) ?_
    exact run_retC hpin 6 (by decide) [] rfl rfl (by simp [conj]) rfl (by simp [conj]; try decide +kernel)
  | 61, _ =>
    refine goX hB 300 rfl (by simp [conj, Fits_i64]; try decide +kernel) ?_
    exact run_retC hpin 6 (by decide) [] rfl rfl (by simp [conj]) rfl (by simp [conj]; try decide +kernel)
  | 62, _ =>
    refine goX hB 300 rfl (by simp [conj, Fits_i64]; try decide +kernel) ?_
    exact run_retC hpin 6 (by decide) [] rfl rfl (by simp [conj]) rfl (by simp [conj]; try decide +kernel)
  | 63, _ =>
    refine goX hB 300 rfl (by simp [conj, Fits_i64]; try decide +kernel) ?_
    exact run_retC hpin 6 (by decide) [] rfl rfl (by simp [conj]) rfl (by simp [conj]; try decide +kernel)
  | 64, _ =>
    refine goX hB 300 rfl (by simp [conj, Fits_i64]; try decide +kernel) ?_
    exact run_retC hpin 7 (by decide) [] rfl rfl (by simp [conj]) rfl (by simp [conj]; try decide +kernel)
  | 65, _ =>
    refine goX hB 300 rfl (by simp [conj, Fits_i64]; try decide +kernel) ?_
    exact run_retC hpin 7 (by decide) [] rfl rfl (by simp [conj]) rfl (by simp [conj]; try decide +kernel)
  | 66, _ =>
    refine goX hB 300 rfl (by simp [conj, Fits_i64]; try decide +kernel) ?_
    exact run_retC hpin 7 (by decide) [] rfl rfl (by simp [conj]) rfl (by simp [conj]; try decide +kernel)
  | 67, _ =>
    refine goX hB 300 rfl (by simp [conj, Fits_i64]; try decide +kernel) ?_
    exact run_retC hpin 7 (by decide) [] rfl rfl (by simp [conj]) rfl (by simp [conj]; try decide +kernel)
  | 68, _ =>
    refine goX hB 300 rfl (by simp [conj, Fits_i64]; try decide +kernel) ?_
    exact run_retC hpin 7 (by decide) [] rfl rfl (by simp [conj]) rfl (by simp [conj]; try decide +kernel)
  | 69, _ =>
    refine goX hB 300 rfl (by simp [conj, Fits_i64]; try decide +kernel) ?_
    exact run_retC hpin 7 (by decide) [] rfl rfl (by simp [conj]) rfl (by simp [conj]; try decide +kernel)
  | 70, _ =>
    refine goX hB 300 rfl (by simp [conj, Fits_i64]; try decide +kernel) ?_
    exact run_retC hpin 7 (by decide) [] rfl rfl (by simp [conj]) rfl (by simp [conj]; try decide +kernel)
  | 71, _ =>
    refine goX hB 300 rfl (by simp [conj, Fits_i64]; try decide +kernel) ?_
    exact run_retC hpin 7 (by decide) [] rfl rfl (by simp [conj]) rfl (by simp [conj]; try decide +kernel)
  | 72, _ =>
    refine goX hB 300 rfl (by simp [conj, Fits_i64]; try decide +kernel) ?_
    exact run_retC hpin 7 (by decide) [] rfl rfl (by simp [conj]) rfl (by simp [conj]; try decide +kernel)
  | 73, _ =>
    refine goX hB 300 rfl (by simp [conj, Fits_i64]; try decide +kernel) ?_
    exact run_retC hpin 7 (by decide) [] rfl rfl (by simp [conj]) rfl (by simp [conj]; try decide +kernel)
  | 74, _ =>
    refine goX hB 300 rfl (by simp [conj, Fits_i64]; try decide +kernel) ?_
    exact run_retC hpin 7 (by decide) [] rfl rfl (by simp [conj]) rfl (by simp [conj]; try decide +kernel)
  | 75, _ =>
    refine goX hB 300 rfl (by simp [conj, Fits_i64]; try decide +kernel) ?_
    exact run_retC hpin 7 (by decide) [] rfl rfl (by simp [conj]) rfl (by simp [conj]; try decide +kernel)
  | 76, _ =>
    refine goX hB 300 rfl (by simp [conj, Fits_i64]; try decide +kernel) ?_
    exact run_retC hpin 7 (by decide) [] rfl rfl (by simp [conj]) rfl (by simp [conj]; try decide +kernel)
  | 77, _ =>
    refine goX hB 300 rfl (by simp [conj, Fits_i64]; try decide +kernel) ?_
    exact run_retC hpin 7 (by decide) [] rfl rfl (by simp [conj]) rfl (by simp [conj]; try decide +kernel)
  | 78, _ =>
    refine goX hB 300 rfl (by simp [conj, Fits_i64]; try decide +kernel) ?_
    exact run_retC hpin 7 (by decide) [] rfl rfl (by simp [conj]) rfl (by simp [conj]; try decide +kernel)
  | 79, _ =>
    refine goX hB 300 rfl (by simp [conj, Fits_i64]; try decide +kernel) ?_
    exact run_retC hpin 7 (by decide) [] rfl rfl (by simp [conj]) rfl (by simp [conj]; try decide +kernel)
  | 80, _ =>
    refine goX hB 300 rfl (by simp [conj, Fits_i64]; try decide +kernel) ?_
    exact run_retC hpin 7 (by decide) [] rfl rfl (by simp [conj]) rfl (by simp [conj]; try decide +kernel)
  | 81, _ =>
    refine goX hB 300 rfl (by simp [conj, Fits_i64]; try decide +kernel) ?_
    exact run_retC hpin 7 (by decide) [] rfl rfl (by simp [conj]) rfl (by simp [conj]; try decide +kernel)
  | 82, _ =>
    refine goX hB 300 rfl (by simp [conj, Fits_i64]; try decide +kernel) ?_
    exact run_retC hpin 7 (by decide) [] rfl rfl (by simp [conj]) rfl (by simp [conj]; try decide +kernel)
  | 83, _ =>
    refine goX hB 300 rfl (by simp [conj, Fits_i64]; try decide +kernel) ?_
    exact run_retC hpin 7 (by decide) [] rfl rfl (by simp [conj]) rfl (by simp [conj]; try decide +kernel)
  | 84, _ =>
    refine goX hB 300 rfl (by simp [conj, Fits_i64]; try decide +kernel) ?_
    exact run_retC hpin 7 (by decide) [] rfl rfl (by simp [conj]) rfl (by simp [conj]; try decide +kernel)
  | 85, _ =>
    refine goX hB 300 rfl (by simp [conj, Fits_i64]; try decide +kernel) ?_
    exact run_retC hpin 7 (by decide) [] rfl rfl (by simp [conj]) rfl (by simp [conj]; try decide +kernel)
  | 86, _ =>
    refine goX hB 300 rfl (by simp [conj, Fits_i64]; try decide +kernel) ?_
    exact run_retC hpin 7 (by decide) [] rfl rfl (by simp [conj]) rfl (by simp [conj]; try decide +kernel)
  | 87, _ =>
    refine goX hB 300 rfl (by simp [conj, Fits_i64]; try decide +kernel) ?_
    exact run_retC hpin 7 (by decide) [] rfl rfl (by simp [conj]) rfl (by simp [conj]; try decide +kernel)
  | 88, _ =>
    refine goX hB 300 rfl (by simp [conj, Fits_i64]; try decide +kernel) ?_
    exact run_retC hpin 7 (by decide) [] rfl rfl (by simp [conj]) rfl (by simp [conj]; try decide +kernel)
  | 89, _ =>
    refine goX hB 300 rfl (by simp [conj, Fits_i64]; try decide +kernel) ?_
    exact run_retC hpin 7 (by decide) [] rfl rfl (by simp [conj]) rfl (by simp [conj]; try decide +kernel)
  | 90, _ =>
    refine goX hB 300 rfl (by simp [conj, Fits_i64]; try decide +kernel) ?_
    exact run_retC hpin 7 (by decide) [] rfl rfl (by simp [conj]) rfl (by simp [conj]; try decide +kernel)
  | 91, _ =>
    refine goX hB 300 rfl (by simp [conj, Fits_i64]; try decide +kernel) ?_
    exact run_retC hpin 7 (by decide) [] rfl rfl (by simp [conj]) rfl (by simp [conj]; try decide +kernel)
  | 92, _ =>
    refine goX hB 300 rfl (by simp [conj, Fits_i64]; try decide +kernel) ?_
    exact run_retC hpin 7 (by decide) [] rfl rfl (by simp [conj]) rfl (by simp [conj]; try decide +kernel)
  | 93, _ =>
    refine goX hB 300 rfl (by simp [conj, Fits_i64]; try decide +kernel) ?_
    exact run_retC hpin 7 (by decide) [] rfl rfl (by simp [conj]) rfl (by simp [conj]; try decide +kernel)
  | 94, _ =>
    refine goX hB 300 rfl (by simp [conj, Fits_i64]; try decide +kernel) ?_
    exact run_retC hpin 7 (by decide) [] rfl rfl (by simp [conj]) rfl (by simp [conj]; try decide +kernel)
  | 95, _ =>
    refine goX hB 300 rfl (by simp [conj, Fits_i64]; try decide +kernel) ?_
    exact run_retC hpin 7 (by decide) [] rfl rfl (by simp [conj]) rfl (by simp [conj]; try decide +kernel)
  | 96, _ =>
    refine goX hB 300 rfl (by simp [conj, Fits_i64]; try decide +kernel) ?_
    exact run_retC hpin 7 (by decide) [] rfl rfl (by simp [conj]) rfl (by simp [conj]; try decide +kernel)
  | 97, _ =>
    refine goX hB 300 rfl (by simp [conj, Fits_i64]; try decide +kernel) ?_
    exact run_retC hpin 7 (by decide) [] rfl rfl (by simp [conj]) rfl (by simp [conj]; try decide +kernel)
  | 98, _ =>
    refine goX hB 300 rfl (by simp [conj, Fits_i64]; try decide +kernel) ?_
    exact run_retC hpin 7 (by decide) [] rfl rfl (by simp [conj]) rfl (by simp [conj]; try decide +kernel)
  | 99, _ =>
    refine goX hB 300 rfl (by simp [conj, Fits_i64]; try decide +kernel) ?_
    exact run_retC hpin 7 (by decide) [] rfl rfl (by simp [conj]) rfl (by simp [conj]; try decide +kernel)
  | 100, _ =>
    refine goX hB 300 rfl (by simp [conj, Fits_i64]; try decide +kernel) ?_
    exact run_retC hpin 7 (by decide) [] rfl rfl (by simp [conj]) rfl (by simp [conj]; try decide +kernel)
  | 101, _ =>
    refine goX hB 300 rfl (by simp [conj, Fits_i64]; try decide +kernel) ?_
    exact run_retC hpin 7 (by decide) [] rfl rfl (by simp [conj]) rfl (by simp [conj]; try decide +kernel)
  | 102, _ =>
    refine goX hB 300 rfl (by simp [conj, Fits_i64]; try decide +kernel) ?_
    exact run_retC hpin 7 (by decide) [] rfl rfl (by simp [conj]) rfl (by simp [conj]; try decide +kernel)
  | 103, _ =>
    refine goX hB 300 rfl (by simp [conj, Fits_i64]; try decide +kernel) ?_
    exact run_retC hpin 7 (by decide) [] rfl rfl (by simp [conj]) rfl (by simp [conj]; try decide +kernel)
  | 104, _ =>
    refine goX hB 300 rfl (by simp [conj, Fits_i64]; try decide +kernel) ?_
    exact run_retC hpin 7 (by decide) [] rfl rfl (by simp [conj]) rfl (by simp [conj]; try decide +kernel)
  | 105, _ =>
    refine goX hB 300 rfl (by simp [conj, Fits_i64]; try decide +kernel) ?_
    exact run_retC hpin 7 (by decide) [] rfl rfl (by simp [conj]) rfl (by simp [conj]; try decide +kernel)
  | 106, _ =>
    refine goX hB 300 rfl (by simp [conj, Fits_i64]; try decide +kernel) ?_
    exact run_retC hpin 7 (by decide) [] rfl rfl (by simp [conj]) rfl (by simp [conj]; try decide +kernel)
  | 107, _ =>
    refine goX hB 300 rfl (by simp [conj, Fits_i64]; try decide +kernel) ?_
    exact run_retC hpin 7 (by decide) [] rfl rfl (by simp [conj]) rfl (by simp [conj]; try decide +kernel)
  | 108, _ =>
    refine goX hB 300 rfl (by simp [conj, Fits_i64]; try decide +kernel) ?_
    exact run_retC hpin 7 (by decide) [] rfl rfl (by simp [conj]) rfl (by simp [conj]; try decide +kernel)
  | 109, _ =>
    refine goX hB 300 rfl (by simp [conj, Fits_i64]; try decide +kernel) ?_
    exact run_retC hpin 7 (by decide) [] rfl rfl (by simp [conj]) rfl (by simp [conj]; try decide +kernel)
  | 110, _ =>
    refine goX hB 300 rfl (by simp [conj, Fits_i64]; try decide +kernel) ?_
    exact run_retC hpin 7 (by decide) [] rfl rfl (by simp [conj]) rfl (by simp [conj]; try decide +kernel)
  | 111, _ =>
    refine goX hB 300 rfl (by simp [conj, Fits_i64]; try decide +kernel) ?_
    exact run_retC hpin 7 (by decide) [] rfl rfl (by simp [conj]) rfl (by simp [conj]; try decide +kernel)
  | 112, _ =>
    refine goX hB 300 rfl (by simp [conj, Fits_i64]; try decide +kernel) ?_
    exact run_retC hpin 7 (by decide) [] rfl rfl (by simp [conj]) rfl (by simp [conj]; try decide +kernel)
  | 113, _ =>
    refine goX hB 300 rfl (by simp [conj, Fits_i64]; try decide +kernel) ?_
    exact run_retC hpin 7 (by decide) [] rfl rfl (by simp [conj]) rfl (by simp [conj]; try decide +kernel)
  | 114, _ =>
    refine goX hB 300 rfl (by simp [conj, Fits_i64]; try decide +kernel) ?_
    exact run_retC hpin 7 (by decide) [] rfl rfl (by simp [conj]) rfl (by simp [conj]; try decide +kernel)
  | 115, _ =>
    refine goX hB 300 rfl (by simp [conj, Fits_i64]; try decide +kernel) ?_
    exact run_retC hpin 7 (by decide) [] rfl rfl (by simp [conj]) rfl (by simp [conj]; try decide +kernel)
  | 116, _ =>
    refine goX hB 300 rfl (by simp [conj, Fits_i64]; try decide +kernel) ?_
    exact run_retC hpin 7 (by decide) [] rfl rfl (by simp [conj]) rfl (by simp [conj]; try decide +kernel)
  | 117, _ =>
    refine goX hB 300 rfl (by simp [conj, Fits_i64]; try decide +kernel) ?_
    exact run_retC hpin 7 (by decide) [] rfl rfl (by simp [conj]) rfl (by simp [conj]; try decide +kernel)
  | 118, _ =>
    refine goX hB 300 rfl (by simp [conj, Fits_i64]; try decide +kernel) ?_
    exact run_retC hpin 7 (by decide) [] rfl rfl (by simp [conj]) rfl (by simp [conj]; try decide +kernel)
  | 119, _ =>
    refine goX hB 300 rfl (by simp [conj, Fits_i64]; try decide +kernel) ?_
    exact run_retC hpin 7 (by decide) [] rfl rfl (by simp [conj]) rfl (by simp [conj]; try decide +kernel)
  | 120, _ =>
    refine goX hB 300 rfl (by simp [conj, Fits_i64]; try decide +kernel) ?_
    exact run_retC hpin 7 (by decide) [] rfl rfl (by simp [conj]) rfl (by simp [conj]; try decide +kernel)
  | 121, _ =>
    refine goX hB 300 rfl (by simp [conj, Fits_i64]; try decide +kernel) ?_
    exact run_retC hpin 7 (by decide) [] rfl rfl (by simp [conj]) rfl (by simp [conj]; try decide +kernel)
  | 122, _ =>
    refine goX hB 300 rfl (by simp [conj, Fits_i64]; try decide +kernel) ?_
    exact run_retC hpin 7 (by decide) [] rfl rfl (by simp [conj]) rfl (by simp [conj]; try decide +kernel)
  | 123, _ =>
    refine goX hB 300 rfl (by simp [conj, Fits_i64]; try decide +kernel) ?_
    exact run_retC hpin 7 (by decide) [] rfl rfl (by simp [conj]) rfl (by simp [conj]; try decide +kernel)
  | 124, _ =>
    refine goX hB 300 rfl (by simp [conj, Fits_i64]; try decide +kernel) ?_
    exact run_retC hpin 7 (by decide) [] rfl rfl (by simp [conj]) rfl (by simp [conj]; try decide +kernel)
  | 125, _ =>
    refine goX hB 300 rfl (by simp [conj, Fits_i64]; try decide +kernel) ?_
    exact run_retC hpin 7 (by decide) [] rfl rfl (by simp [conj]) rfl (by simp [conj]; try decide +kernel)
  | 126, _ =>
    refine goX hB 300 rfl (by simp [conj, Fits_i64]; try decide +kernel) ?_
    exact run_retC hpin 7 (by decide) [] rfl rfl (by simp [conj]) rfl (by simp [conj]; try decide +kernel)
  | 127, _ =>
    refine goX hB 300 rfl (by simp [conj, Fits_i64]; try decide +kernel) ?_
    exact run_retC hpin 7 (by decide) [] rfl rfl (by simp [conj]) rfl (by simp [conj]; try decide +kernel)
  | 128, _ =>
    refine goX hB 300 rfl (by simp [conj, Fits_i64]; try decide +kernel) ?_
    exact run_retC hpin 8 (by decide) [] rfl rfl (by simp [conj]) rfl (by simp [conj]; try decide +kernel)
  | y + 129, h => exact absurd h (by omega)
end Sx
end
section
/- breakPatternsOrdered swaps. Conditions: as each theorem says. -/
namespace Sx
open Go Go.Proofs
set_option maxRecDepth 100000
theorem wrapU (x : Int) : IntKind.u64.wrap x = x % 18446744073709551616 := by
  have e : (2 : Int) ^ IntKind.u64.bits = 18446744073709551616 := by decide
  simp [IntKind.wrap, IntKind.signed, e]
theorem next_hc (x : Int) : HC Try.prog 103 [.ptr 0 0] [(0, .cells [u64 x] 151)] [] 1 (fun y : Int => 0 ≤ y ∧ y < 18446744073709551616) (fun y => ⟨u64 y, [(0, .cells [u64 y] 151)], 1⟩) := by
  refine hc_of_run Try.func103 rfl (fun B hB hpin => ?_)
  refine goS hB rfl rfl (by simp [conj]) ?_
  refine run_retC hpin _ ⟨?_, ?_⟩ [0] rfl rfl (by simp [conj]) rfl (by simp [conj]; rfl)
  · rw [wrapU]; omega
  · rw [wrapU]; omega
theorem pow2_hc (l : Nat) (h0 : 0 < l) (hl : l < 129) : HC Try.prog 102 [i64 l] [] [] 0 (fun m : Nat => 1 ≤ m ∧ m ≤ 2 * l) (fun m => ⟨u64 m, [], 0⟩) := by
  have hw : IntKind.u64.wrap (l : Int) = l := by rw [wrapU]; omega
  refine hc_of_run Try.func102 rfl (fun B hB hpin => ?_)
  refine goS hB rfl rfl (by simp [conj]) ?_
  rw [hw]
  refine run_callC (len_hc l hl) named hB [] rfl rfl rfl rfl (by simp [conj]) (by simp [conj]) ?_
  rintro k ⟨k1, k2, k3⟩
  refine ⟨show 0 ≤ 0 by omega, _, _, _, rfl, rfl, rfl, ?_⟩
  refine goS hB rfl rfl (by simp [conj]) ?_
  have hk := k3 h0
  have hp : (2 : Nat) ^ k ≤ 2 ^ 8 := Nat.pow_le_pow_right (by decide) k1
  refine run_retC hpin (2 ^ k) ⟨Nat.one_le_two_pow, hk⟩ [] rfl rfl (by simp [conj]) rfl ?_
  have e1 : (min ((k : Nat) : Int).toNat IntKind.u64.bits) = k := by
    have : IntKind.u64.bits = 64 := rfl
    rw [this]; omega
  have e2 : ((2 ^ k : Nat) : Int) = 2 ^ k := by simp
  have e3 : IntKind.u64.wrap (1 * 2 ^ (min ((k : Nat) : Int).toNat IntKind.u64.bits)) = ((2 ^ k : Nat) : Int) := by
    rw [e1, ← e2, wrapU]
    omega
  rw [e3]
  simp [conj]
theorem and_lt (y : Int) (m : Nat) (m1 : 1 ≤ m) (m2 : m ≤ 1000) : ∃ o : Nat, o < m ∧ IntKind.i64.wrap (IntKind.u64.wrap ((BitVec.ofInt IntKind.u64.bits y &&& BitVec.ofInt IntKind.u64.bits (IntKind.u64.wrap ((m : Int) - 1))).toNat)) = o := by
  have hbits : IntKind.u64.bits = 64 := rfl
  rw [hbits]
  have e0 : IntKind.u64.wrap ((m : Int) - 1) = ((m - 1 : Nat) : Int) := by rw [wrapU]; omega
  rw [e0, BitVec.ofInt_natCast, BitVec.toNat_and, BitVec.toNat_ofNat, Nat.mod_eq_of_lt (by omega)]
  have h := Nat.and_le_right (n := (BitVec.ofInt 64 y).toNat) (m := m - 1)
  generalize (BitVec.ofInt 64 y).toNat &&& (m - 1) = v at h ⊢
  refine ⟨v, by omega, ?_⟩
  rw [wrapU, Int.emod_eq_of_lt (by omega) (by omega)]
  simp [IntKind.wrap, IntKind.bits, IntKind.signed]
  omega
set_option maxHeartbeats 2000000 in
theorem break_hc (n cap a b : Nat) (hab : a + 12 < b) (hb : b ≤ n) (hn : n < 129) (d : Dt) :
    HC Try.prog 92 [.sq 0 0 0 1 n .no, i64 a, i64 b] (rowD n cap d) [] 1 (fun e : Dt => SW a b d e) (fun e => ⟨.tup [], rowD n cap e, 1⟩) := by
  refine hc_of_run Try.func92 rfl (fun B hB hpin => ?_)
  refine goS hB rfl rfl (by simp [conj, Fits_i64]; omega) ?_
  refine run_condT rfl (by simp; omega) ?_
  refine goS hB rfl rfl (by simp [conj, Fits_i64]; try omega) ?_
  obtain ⟨l, hl⟩ : ∃ l : Nat, (b : Int) - a = l := ⟨b - a, by omega⟩
  rw [hl]
  refine run_callC (pow2_hc l (by omega) (by omega)) named hB [] rfl rfl rfl rfl (by simp [conj]) (by simp [conj]) ?_
  rintro m ⟨m1, m2⟩
  refine ⟨show 0 ≤ 0 by omega, _, _, _, rfl, rfl, rfl, ?_⟩
  refine goS hB rfl rfl (by simp [conj, Fits_i64]; omega) ?_
  refine run_loop ?_
  refine run_inv (ι := Nat × Int × Dt) hpin (fun z => a + l / 4 * 2 ≤ z.1 + 1 ∧ SW a b d z.2.2) (fun z => b - z.1) (fun z => [(9, i64 z.1), (8, u64 m), (7, .ptr 1 0), (6, i64 l), (0, .sq 0 0 0 1 n .no), (1, i64 a)]) (fun _ => []) (fun z => (1, .cells [u64 z.2.1] 151) :: rowD n cap z.2.2) 2 (a + l / 4 * 2 - 1, l, d) ⟨by show a + l / 4 * 2 ≤ a + l / 4 * 2 - 1 + 1; omega, .refl⟩
    [0, 1] rfl rfl (by
      simp [conj, less_rfl, ren_fnr, wrapU]
      omega) ?_
  rintro ⟨i, x, e⟩ ⟨h1, h2⟩ ih
  have h1 : a + l / 4 * 2 ≤ i + 1 := h1
  have h2 : SW a b d e := h2
  refine goS hB rfl rfl (by simp [conj, Fits_i64]; omega) ?_
  refine run_cond rfl (fun hc => ?_) (fun hc => ?_)
  · have hi : i ≤ a + l / 4 * 2 + 1 := by simp at hc; omega
    clear hc
    refine goS hB rfl rfl (by simp [conj]) ?_
    refine run_callC (next_hc x) named hB [1] rfl rfl rfl rfl (by simp [conj]) (by simp [conj, less_rfl]) ?_
    rintro y ⟨y0, y1⟩
    refine ⟨show 1 ≤ 1 by omega, _, _, _, rfl, rfl, rfl, ?_⟩
    refine goS hB rfl rfl (by simp [conj, Fits_i64]; try omega) ?_
    obtain ⟨o, o1, o2⟩ := and_lt y m m1 (by omega)
    rw [o2]
    refine run_cond rfl (fun hc => ?_) (fun hc => ?_)
    · have ho : l ≤ o := by simp at hc; omega
      have z0 : 0 + ((i : Nat) : Int).toNat = i := by omega
      have z1 : 0 + ((a : Int) + ((o : Int) - (l : Int))).toNat = a + (o - l) := by omega
      have ih := ih (i + 1, y, swp e i (a + (o - l))) ⟨by show a + l / 4 * 2 ≤ i + 1 + 1; omega, .step i (a + (o - l)) h2 (by omega) (by omega) (by omega) (by omega)⟩ (by show b - (i + 1) < b - i; omega)
      refine goS hB rfl rfl (by simp [conj, Fits_i64]; omega) ?_
      refine run_back ?_
      refine run_to hpin [0, 1] rfl rfl ?_ ih
      clear ih
      simp only [z0, z1]
      simp [conj, less_rfl, ren_fnr, renR_fnr]
      exact fun k _ => Less.of (swp_upd e i (a + (o - l)) k).symm
    · have ho : o < l := by simp at hc; omega
      have z0 : 0 + ((i : Nat) : Int).toNat = i := by omega
      have z1 : 0 + ((a : Int) + (o : Int)).toNat = a + (o) := by omega
      have ih := ih (i + 1, y, swp e i (a + (o))) ⟨by show a + l / 4 * 2 ≤ i + 1 + 1; omega, .step i (a + (o)) h2 (by omega) (by omega) (by omega) (by omega)⟩ (by show b - (i + 1) < b - i; omega)
      refine goS hB rfl rfl (by simp [conj, Fits_i64]; omega) ?_
      refine run_back ?_
      refine run_to hpin [0, 1] rfl rfl ?_ ih
      clear ih
      simp only [z0, z1]
      simp [conj, less_rfl, ren_fnr, renR_fnr]
      exact fun k _ => Less.of (swp_upd e i (a + (o)) k).symm
  · clear ih
    refine goS hB rfl rfl (by simp [conj]) ?_
    exact run_endC hpin e h2 [0] rfl rfl (by simp [conj]) rfl (by simp [conj, less_rfl, ren_fnr])
end Sx
end
section
/- partialInsertionSortOrdered. Conditions: as each theorem says. -/
namespace Sx
open Go Go.Proofs
set_option maxRecDepth 100000
/-- What lies below a is less than all from a to b. -/
def Below0 (a b : Nat) (d : Dt) : Prop := 0 < a → ∀ k, a ≤ k → k < b → d (a - 1) < d k
theorem Below0.sw {a b : Nat} {d e : Dt} (h : Below0 a b d) (hs : SW a b d e) : Below0 a b e := fun ha => by
  rw [hs.out (a - 1) (.inl (by omega))]
  exact hs.all (d (a - 1) < ·) (h ha)
theorem srt_swp2 {a i j : Nat} {e : Dt} (h : Srt a i e) (hj : i + 1 ≤ j) : Srt a i (swp e j (j - 1)) := fun p q h1 h2 h3 => by
  unfold swp
  rw [if_neg (by omega), if_neg (by omega), if_neg (by omega), if_neg (by omega)]
  exact h p q h1 h2 h3
theorem srt_first {a i : Nat} {e : Dt} (h : Srt a i e) : SrtX a (i - 1) (i - 1) (swp e i (i - 1)) := fun p q h1 h2 h3 h4 => by
  unfold swp
  rw [if_neg (by omega), if_neg (by omega), if_neg (by omega), if_neg (by omega)]
  exact h p q h1 h2 (by omega)
theorem run_shareI {P : Program} {ro : Hp} {B : Base} {f : FuncId} {R : Ending → World → Prop} {N : Nat} {TD : List SI} {ι : Type} (I : ι → Prop) (c1 : ι → Nat → List SI → Cfg) {Q : Prop} (main : (∀ x, I x → Run P ro B f R (c1 x N TD)) → Q) (proof : ∀ x, I x → Run P ro B f R (c1 x N TD)) : Q := main proof
set_option maxHeartbeats 8000000 in
theorem partial_hc (n cap a b : Nat) (hab : a + 12 < b) (hb : b ≤ n) (hn : n < 1000000) (d : Dt) (hd : Below0 a b d) :
    HC Try.prog 95 [.sq 0 0 0 1 n .no, i64 a, i64 b] (rowD n cap d) [] 1 (fun z : Bool × Dt => SW a b d z.2 ∧ (z.1 = true → Srt a b z.2)) (fun z => ⟨.sb z.1, rowD n cap z.2, 1⟩) := by
  refine hc_of_run Try.func95 rfl (fun B hB hpin => ?_)
  refine goS hB rfl rfl (by simp [conj, Fits_i64]; omega) ?_
  refine run_loop ?_
  refine run_inv (ι := Nat × Nat × Dt) hpin (fun z => z.1 ≤ 5 ∧ a + 1 ≤ z.2.1 ∧ z.2.1 ≤ b ∧ SW a b d z.2.2 ∧ Srt a z.2.1 z.2.2) (fun z => 5 - z.1) (fun z => [(8, i64 z.1), (7, i64 z.2.1), (0, .sq 0 0 0 1 n .no), (1, i64 a), (2, i64 b), (6, .ff)]) (fun _ => []) (fun z => rowD n cap z.2.2) 1 (0, a + 1, d) ⟨Nat.zero_le _, Nat.le_refl _, by show a + 1 ≤ b; omega, .refl, fun p q g1 g2 g3 => by
      have g3 : q < a + 1 := g3
      omega⟩
    [0] rfl rfl (by simp [conj, less_rfl, ren_fnr]) ?_
  rintro ⟨t, i0, e0⟩ ⟨h1, h2, h3, h4, h5⟩ ih0
  have h1 : t ≤ 5 := h1
  refine goS hB rfl rfl (by simp [conj]) ?_
  refine run_cond rfl (fun hc => ?_) (fun hc => ?_)
  rotate_left
  · clear ih0
    refine goS hB rfl rfl (by simp [conj]) ?_
    exact run_retC hpin (false, e0) ⟨h4, fun q => by cases q⟩ [0] rfl rfl (by simp [conj]) rfl (by simp [conj, less_rfl, ren_fnr])
  have ht : t < 5 := by simp at hc; omega
  clear hc
  refine goS hB rfl rfl (by simp [conj]) ?_
  refine run_loop ?_
  refine run_inv (ι := Nat) hpin (fun i => a + 1 ≤ i ∧ i ≤ b ∧ Srt a i e0) (fun i => b - i) (fun i => [(7, i64 i), (8, i64 t), (0, .sq 0 0 0 1 n .no), (1, i64 a), (2, i64 b), (6, .ff)]) (fun _ => []) (fun _ => rowD n cap e0) 1 i0 ⟨h2, h3, h5⟩
    [0] rfl rfl (by simp [conj, less_rfl, ren_fnr]) ?_
  clear h2 h3 h5
  rintro i ⟨h2, h3, h5⟩ ih
  refine goS hB rfl rfl (by simp [conj, Fits_i64]; omega) ?_
  have x0 : 0 + ((i : Nat) : Int).toNat = i := by omega
  have x1 : 0 + (((i : Nat) : Int) - 1).toNat = i - 1 := by omega
  refine run_cond rfl (fun hc => ?_) (fun hc => ?_)
  · clear ih0
    rw [Bool.and_eq_true, decide_eq_true_iff, Bool.not_eq_true', decide_eq_false_iff_not] at hc
    rw [x0, x1] at hc
    obtain ⟨c1, c2⟩ := hc
    have c1 : i < b := by omega
    have ih := ih (i + 1) ⟨by omega, by omega, fun p q g1 g2 g3 => by
      by_cases e1 : q = i
      · subst e1
        by_cases e2 : p = q - 1
        · subst e2; omega
        · have := h5 p (q - 1) g1 (by omega) (by omega)
          omega
      · exact h5 p q g1 g2 (by omega)⟩ (by omega)
    refine goS hB rfl rfl (by simp [conj, Fits_i64]; omega) ?_
    refine run_back ?_
    refine run_to hpin [0] rfl rfl ?_ ih
    clear ih
    simp [conj, less_rfl, ren_fnr, renR_fnr]
  clear ih hc
  refine goS hB rfl rfl (by simp [conj]) ?_
  refine run_cond rfl (fun hc => ?_) (fun hc => ?_)
  · have hib : i = b := by simp at hc; omega
    subst hib
    refine goS hB rfl rfl (by simp [conj]) ?_
    exact run_retC hpin (true, e0) ⟨h4, fun _ => h5⟩ [0] rfl rfl (by simp [conj]) rfl (by simp [conj, less_rfl, ren_fnr])
  have hib : i < b := by simp at hc; omega
  clear hc
  refine goS hB rfl rfl (by simp [conj, Fits_i64]; omega) ?_
  refine run_cond rfl (fun hc => ?_) (fun hc => ?_)
  · refine goS hB rfl rfl (by simp [conj]) ?_
    exact run_retC hpin (false, e0) ⟨h4, fun q => by cases q⟩ [0] rfl rfl (by simp [conj]) rfl (by simp [conj, less_rfl, ren_fnr])
  clear hc
  refine goS hB rfl rfl (by simp [conj, Fits_i64]; omega) ?_
  rw [x0, x1]
  have hsw : SW a b d (swp e0 i (i - 1)) := .step i (i - 1) h4 (by omega) hib (by omega) (by omega)
  apply run_shareI (B := B) (fun f : Dt => SW a b d f ∧ Srt a i f) (fun f N TD => ⟨⟨fid 95, N, [(98, .sb (decide (2 ≤ (b : Int) - i))), (7, i64 i), (8, i64 t), (0, .sq 0 0 0 1 n .no), (1, i64 a), (2, i64 b), (6, .ff)], TD⟩, [], rowD n cap f, 1⟩)
  · intro next
    refine run_cond rfl (fun hc => ?_) (fun hc => ?_)
    · have hia : a + 2 ≤ i := by simp at hc; omega
      refine goS hB rfl rfl (by simp [conj, Fits_i64]; omega) ?_
      refine run_loop ?_
      refine run_inv (ι := Nat × Dt) hpin (fun z => a ≤ z.1 ∧ z.1 ≤ i - 1 ∧ SW a b d z.2 ∧ SrtX a (i - 1) z.1 z.2) (fun z => z.1) (fun z => [(9, i64 z.1), (7, i64 i), (8, i64 t), (0, .sq 0 0 0 1 n .no), (1, i64 a), (2, i64 b), (6, .ff)]) (fun _ => []) (fun z => rowD n cap z.2) 1 (i - 1, swp e0 i (i - 1)) ⟨by show a ≤ i - 1; omega, Nat.le_refl _, hsw, srt_first h5⟩
        [0] rfl rfl (by
          simp [conj, less_rfl, ren_fnr, renR_fnr]
          exact ⟨by omega, fun k _ => Less.of (swp_upd e0 i (i - 1) k).symm⟩) ?_
      rintro ⟨j, e⟩ ⟨j1, j2, j3, j4⟩ ihj
      have j1 : a ≤ j := j1
      have j2 : j ≤ i - 1 := j2
      have j3 : SW a b d e := j3
      refine goS hB rfl rfl (by simp [conj]) ?_
      have y0 : 0 + ((j : Nat) : Int).toNat = j := by omega
      have y1 : 1 ≤ j → 0 + (((j : Nat) : Int) - 1).toNat = j - 1 := by omega
      refine run_cond rfl (fun hc => ?_) (fun hc => ?_)
      · have hj1 : 1 ≤ j := by simp at hc; omega
        have y1 := y1 hj1
        refine goS hB rfl rfl (by simp [conj, Fits_i64]; omega) ?_
        refine run_cond rfl (fun hc2 => ?_) (fun hc2 => ?_)
        · clear ihj
          have hd2 : ¬ e j < e (j - 1) := by
            simp only [Bool.not_eq_true', decide_eq_false_iff_not] at hc2
            rwa [y0, y1] at hc2
          refine goS hB rfl rfl (by simp [conj, Fits_i64]; omega) ?_
          refine run_to hpin [0] rfl rfl ?_ (next e ⟨j3, by
            have := srtX_done j4 j1 j2 (.inr hd2)
            rwa [show i - 1 + 1 = i by omega] at this⟩)
          clear next
          simp [conj, less_rfl, ren_fnr, renR_fnr]
        · clear next
          have hd2 : e j < e (j - 1) := by
            simp only [Bool.not_eq_false', decide_eq_true_iff] at hc2
            rwa [y0, y1] at hc2
          have haj : a < j := by
            rcases Nat.lt_or_ge a j with q | q
            · exact q
            · have : j = a := by omega
              subst this
              have := hd.sw j3 (by omega) j (Nat.le_refl _) (by omega)
              omega
          have ihj := ihj (j - 1, swp e j (j - 1)) ⟨by show a ≤ j - 1; omega, by show j - 1 ≤ i - 1; omega, .step j (j - 1) j3 j1 (by omega) (by omega) (by omega), srtX_step j4 haj j2 hd2⟩ (by show j - 1 < j; omega)
          refine goS hB rfl rfl (by simp [conj, Fits_i64]; omega) ?_
          refine run_back ?_
          refine run_to hpin [0] rfl rfl ?_ ihj
          clear ihj
          simp only [y0, y1]
          simp [conj, less_rfl, ren_fnr, renR_fnr]
          exact ⟨by omega, fun k _ => Less.of (swp_upd e j (j - 1) k).symm⟩
      · clear ihj
        have hj0 : j = a := by simp at hc; omega
        refine goS hB rfl rfl (by simp [conj, Fits_i64]; omega) ?_
        refine run_to hpin [0] rfl rfl ?_ (next e ⟨j3, by
          have := srtX_done j4 j1 j2 (.inl hj0)
          rwa [show i - 1 + 1 = i by omega] at this⟩)
        clear next
        simp [conj, less_rfl, ren_fnr, renR_fnr]
    · have hia : i = a + 1 := by simp at hc; omega
      refine goS hB rfl rfl (by simp [conj, Fits_i64]; omega) ?_
      refine run_to hpin [0] rfl rfl ?_ (next (swp e0 i (i - 1)) ⟨hsw, fun p q g1 g2 g3 => by omega⟩)
      clear next
      simp [conj, less_rfl, ren_fnr, renR_fnr]
      exact fun k _ => Less.of (swp_upd e0 i (i - 1) k).symm
  clear hsw
  rintro f ⟨f1, f2⟩
  refine run_cond rfl (fun hc => ?_) (fun hc => ?_)
  · have f2' := f2
    refine goS hB rfl rfl (by simp [conj, Fits_i64]; omega) ?_
    refine run_loop ?_
    refine run_inv (ι := Nat × Dt) hpin (fun z => i + 1 ≤ z.1 ∧ SW a b d z.2 ∧ Srt a i z.2) (fun z => b - z.1) (fun z => [(10, i64 z.1), (7, i64 i), (8, i64 t), (0, .sq 0 0 0 1 n .no), (1, i64 a), (2, i64 b), (6, .ff)]) (fun _ => []) (fun z => rowD n cap z.2) 1 (i + 1, f) ⟨Nat.le_refl _, f1, f2'⟩
      [0] rfl rfl (by simp [conj, less_rfl, ren_fnr, renR_fnr]) ?_
    rintro ⟨j, e⟩ ⟨j1, j3, j4⟩ ihj
    have j1 : i + 1 ≤ j := j1
    refine goS hB rfl rfl (by simp [conj]) ?_
    have y0 : 0 + ((j : Nat) : Int).toNat = j := by omega
    have y1 : 0 + (((j : Nat) : Int) - 1).toNat = j - 1 := by omega
    refine run_cond rfl (fun hc => ?_) (fun hc => ?_)
    · have hjb : j < b := by simp at hc; omega
      refine goS hB rfl rfl (by simp [conj, Fits_i64]; omega) ?_
      refine run_cond rfl (fun hc2 => ?_) (fun hc2 => ?_)
      · clear ihj
        have ih0 := ih0 (t + 1, i, e) ⟨by show t + 1 ≤ 5; omega, h2, h3, j3, j4⟩ (by show 5 - (t + 1) < 5 - t; omega)
        refine goS hB rfl rfl (by simp [conj, Fits_i64]; omega) ?_
        refine run_back ?_
        refine run_to hpin [0] rfl rfl ?_ ih0
        clear ih0
        simp [conj, less_rfl, ren_fnr, renR_fnr]
      · clear ih0
        have ihj := ihj (j + 1, swp e j (j - 1)) ⟨by show i + 1 ≤ j + 1; omega, .step j (j - 1) j3 (by omega) hjb (by omega) (by omega), srt_swp2 j4 (by omega)⟩ (by show b - (j + 1) < b - j; omega)
        refine goS hB rfl rfl (by simp [conj, Fits_i64]; omega) ?_
        refine run_back ?_
        refine run_to hpin [0] rfl rfl ?_ ihj
        clear ihj
        simp only [y0, y1]
        simp [conj, less_rfl, ren_fnr, renR_fnr]
        exact fun k _ => Less.of (swp_upd e j (j - 1) k).symm
    · clear ihj
      have ih0 := ih0 (t + 1, i, e) ⟨by show t + 1 ≤ 5; omega, h2, h3, j3, j4⟩ (by show 5 - (t + 1) < 5 - t; omega)
      refine goS hB rfl rfl (by simp [conj, Fits_i64]; omega) ?_
      refine run_back ?_
      refine run_to hpin [0] rfl rfl ?_ ih0
      clear ih0
      simp [conj, less_rfl, ren_fnr, renR_fnr]
  · have ih0 := ih0 (t + 1, i, f) ⟨by show t + 1 ≤ 5; omega, h2, h3, f1, f2⟩ (by show 5 - (t + 1) < 5 - t; omega)
    refine goS hB rfl rfl (by simp [conj, Fits_i64]; omega) ?_
    refine run_back ?_
    refine run_to hpin [0] rfl rfl ?_ ih0
    clear ih0
    simp [conj, less_rfl, ren_fnr, renR_fnr]
end Sx
end
