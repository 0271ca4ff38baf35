/- Package ana: Copy at any groups. Conditions: as each theorem says. -/
import Derived.Test.YtlpbmlfejiaamaaNw
import Derived.Test.YtlpbmlfejiaamaaEngX5
set_option linter.unusedSimpArgs false
set_option linter.unusedVariables false
namespace Sx
open Go Go.Proofs
set_option maxRecDepth 100000
set_option pp.deepTerms true
set_option pp.maxSteps 10000000
theorem isMp62 : IsMp Try.prog 62 := ⟨29, 3, by kernel_rfl⟩
theorem isClone : IsClone Try.prog 78 Try.f78 := ⟨Try.func78, rfl, rfl, by kernel_rfl, by kernel_rfl⟩
theorem flat_key (s : GS) (m nx : Nat) (sg : List Nat) (i k : Nat) (hi : i < 128) (hk : k < 3) : ∃ u, ([i64 s.now] ++ flatC (rG s.to s.fr s.ch) 3 0 128 [i64 s.n, .mp m])[1 + i * 3 + k]? = some u ∧ Less (ren nx sg (rG s.to s.fr s.ch i k)) u := by
  refine ⟨rG s.to s.fr s.ch i k, ?_, ?_⟩
  · rw [List.getElem?_append_right (by simp; omega)]
    have := flatC_get (rG s.to s.fr s.ch) 3 [i64 s.n, .mp m] 128 0 i k hi hk
    rw [Nat.zero_add] at this
    rw [← this]; congr 1; simp; omega
  · rw [ren_rG]; exact (less_rfl _).mpr trivial
set_option maxHeartbeats 4000000 in
theorem copy_hc (s : GS) (hs : GOk s) : HC Try.prog 20 [.ptr 0 0] (hpG s) [] 2 (fun _ : Unit => True) (fun _ => ⟨.ptr 2 0, [(0, gobj s 1), (1, mmap s), (2, gobj s 3), (3, mmap s)], 4⟩) := by
  refine hc_of_run Try.func20 rfl (fun B hB hpin => ?_)
  have hn0 := hs.n0
  refine goW hB [(36, 10)] 3000 rfl (by simp [conj, Fits_i64, isBo4, isPt23, isIf20] <;> omega) ?_
  refine run_ff (by simp <;> omega) ?_
  refine run_flat 0 rfl rfl rfl ?_
  refine goW hB [] 3000 rfl (by simp [conj, Fits_i64, isBo4, isPt23, isIf20, isMp62] <;> omega) ?_
  refine run_mclone hB isClone rfl rfl (by simp [conj]) rfl rfl ?_
  refine goW hB [] 3000 rfl (by simp [conj, Fits_i64, isBo4, isPt23, isIf20, isMp62] <;> omega) ?_
  refine run_retC hpin () trivial [0, 1, 2, 3] rfl rfl (by simp [conj]) rfl ?_
  simp only [conj]
  repeat' (first | exact trivial | exact rfl | exact flat_key s _ _ _ | (intro _; exact trivial) | (intro _ _; exact trivial) | (intro _; rfl) | exact (less_rfl _).mpr trivial | apply And.intro)
end Sx
