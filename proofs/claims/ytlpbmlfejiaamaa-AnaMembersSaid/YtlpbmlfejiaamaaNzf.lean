/- Package ana: New. Conditions: as each theorem says. -/
import Derived.Test.YtlpbmlfejiaamaaNze
import Derived.Test.YtlpbmlfejiaamaaNf
set_option linter.unusedSimpArgs false
set_option linter.unusedVariables false
namespace Sx
open Go Go.Proofs
set_option maxRecDepth 100000
set_option pp.deepTerms true
set_option pp.maxSteps 10000000
theorem new_key (n : Int) (m nx : Nat) (sg : List Nat) (i k : Nat) (hi : i < 128) (hk : k < 3) : ∃ u, (i64 0 :: ((List.replicate 128 [i64 1, i64 0, SV.int .u64 0]).flatten ++ [i64 n, .mp m]))[1 + i * 3 + k]? = some u ∧ Less (ren nx sg (rG (gs0 n).to (gs0 n).fr (gs0 n).ch i k)) u := by
  rw [ren_rG]
  have h := flat3 (i64 1) (i64 0) (.int .u64 0) 128 i k hi hk
  have hlt : i * 3 + k < ((List.replicate 128 [i64 1, i64 0, SV.int .u64 0]).flatten).length := by simp; omega
  rw [show 1 + i * 3 + k = i * 3 + k + 1 by omega, List.getElem?_cons_succ, List.getElem?_append_left hlt, h]
  match k, hk with
  | 0, _ => exact ⟨_, rfl, Less.rfl⟩
  | 1, _ => exact ⟨_, rfl, Less.rfl⟩
  | 2, _ => exact ⟨_, rfl, Less.rfl⟩
set_option maxHeartbeats 40000000 in
theorem new_hc (n : Int) (hn : 1 ≤ n ∧ n ≤ 128) : HC Try.prog 10 [i64 n] [] [] 0 (fun _ : Unit => True) (fun _ => ⟨.tup [.ptr 0 0, i64 0], [(0, gobj (gs0 n) 1), (1, mmap (gs0 n))], 2⟩) := by
  refine hc_of_run Try.func10 rfl (fun B hB hpin => ?_)
  refine goW hB [(10, 7)] 400 rfl (by first | exact conj_nil | simp [conj]) ?_
  refine run_ff (by simp; omega) ?_
  refine goW hB [(10, 10)] 400 rfl (by first | exact conj_nil | simp [conj]) ?_
  refine run_ff (by simp; omega) ?_
  refine goW hB [] 6000 rfl (by first | exact conj_nil | (simp [conj, Fits_i64] <;> first | omega | decide +kernel)) ?_
  refine run_retC hpin () trivial [1, 0] rfl rfl (by first | exact conj_nil | simp [conj]) rfl ?_
  simp only [conj]
  repeat' (first | exact trivial | exact rfl | exact new_key n _ _ _ | (intro _; exact trivial) | (intro _ _; exact trivial) | (intro _; rfl) | exact (less_rfl _).mpr trivial | apply And.intro)
theorem new_lo (n : Int) (hn : n < 1) : HC Try.prog 10 [i64 n] [] [] 0 (fun _ : Unit => True) (fun _ => ⟨.tup [.nil, i64 2], [], 0⟩) := by
  refine hc_of_run Try.func10 rfl (fun B hB hpin => ?_)
  refine goW hB [(10, 7)] 400 rfl (by first | exact conj_nil | simp [conj]) ?_
  refine run_tt (by simp; omega) ?_
  refine goW hB [] 400 rfl (by first | exact conj_nil | simp [conj]) ?_
  exact run_retC hpin () trivial [] rfl rfl (by first | exact conj_nil | simp [conj]) rfl (by first | exact conj_nil | simp [conj])
theorem new_hi (n : Int) (hn : 128 < n) : HC Try.prog 10 [i64 n] [] [] 0 (fun _ : Unit => True) (fun _ => ⟨.tup [.nil, i64 2], [], 0⟩) := by
  refine hc_of_run Try.func10 rfl (fun B hB hpin => ?_)
  refine goW hB [(10, 7)] 400 rfl (by first | exact conj_nil | simp [conj]) ?_
  refine run_ff (by simp; omega) ?_
  refine goW hB [(10, 10)] 400 rfl (by first | exact conj_nil | simp [conj]) ?_
  refine run_tt (by simp; omega) ?_
  refine goW hB [] 400 rfl (by first | exact conj_nil | simp [conj]) ?_
  exact run_retC hpin () trivial [] rfl rfl (by first | exact conj_nil | simp [conj]) rfl (by first | exact conj_nil | simp [conj])
end Sx
