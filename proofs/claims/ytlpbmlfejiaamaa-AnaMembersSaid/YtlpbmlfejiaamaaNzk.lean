/- The reference of chapter 44: Same on two logs of the same groups. Conditions: as each theorem says. -/
import Derived.Test.YtlpbmlfejiaamaaNzj
import Derived.Test.YtlpbmlfejiaamaaEngX6
set_option linter.unusedSimpArgs false
set_option linter.unusedVariables false
namespace Sx
open Go Go.Proofs
set_option maxRecDepth 100000
set_option pp.deepTerms true
set_option pp.maxSteps 10000000
theorem same_hck (K : Kn) (s : GS) (l : List Int) (hl : l.length < 129) (V V' : Nat → Value) (n : Nat) (hn : n ≤ 128) (T : Int) (hV : MOK K s l V n) (hV' : MOK K s l V' n) :
    HCK Try.prog K 26 [.agg [u64 T, .sq 0 0 0 4 n .no], .agg [u64 T, .sq 1 0 0 4 n .no]] [] [(0, .row 0 n n 4 (lrow s V) anyTy), (1, .row 0 n n 4 (lrow s V') anyTy)] 2 (fun _ : Unit => True) (fun _ => ⟨.tt, [], 2⟩) := by
  refine hck_of_run Try.func26 rfl (fun B hB hK hpin => ?_)
  refine goL hB rfl rfl (by simp [conj]) ?_
  refine run_ff (by simp) ?_
  refine goL hB rfl rfl (by simp [conj]) ?_
  refine run_loop ?_
  refine run_inv (ι := Nat) hpin (fun j => j ≤ n) (fun j => n - j) (fun j => [(5, i64 j), (3, .ptr 3 0), (2, .ptr 2 0)]) (fun _ => []) (fun _ => [(3, .cells [u64 T, .sq 1 0 0 4 n .no] 67), (2, .cells [u64 T, .sq 0 0 0 4 n .no] 67)]) 4 0 (Nat.zero_le _) [0, 1, 2, 3] rfl rfl (by simp [conj, less_rfl, ren_lrow]) ?_
  intro j hj ih
  refine goL hB rfl rfl (by simp [conj]) ?_
  by_cases hj1 : j < n
  · refine run_tt (by simpa using hj1) ?_
    have ih := ih (j + 1) (by omega) (by omega)
    have e0 : 0 + ((j : Nat) : Int).toNat = j := by omega
    refine goT hB [(26, 44)] 400 rfl (by simp [conj]; omega) ?_
    rw [e0]
    have hF := hV j hj1
    have hF' := hV' j hj1
    have hlen : (mem s ((j : Int) + 1) l).length ≤ l.length := List.length_filter_le _ _
    generalize mem s ((j : Int) + 1) l = L at hF hF' hlen
    refine run_ff (by simp) ?_
    refine run_openB hK 14 3 hF (by decide) rfl rfl (fun _ => rfl) (fun _ => rfl) (fun off => ?_)
    refine run_openB hK 15 3 hF' (by decide) rfl rfl (fun _ => rfl) (fun _ => rfl) (fun off' => ?_)
    refine goT hB [(26, 50)] 400 rfl (by simp [conj]) ?_
    refine run_ff (by simp) ?_
    refine goT hB [(26, 57)] 400 rfl (by simp [conj]) ?_
    refine run_ff (by simp) ?_
    refine goT hB [(26, 66)] 400 rfl (by simp [conj]) ?_
    refine run_ff (by simp) ?_
    refine goL hB rfl rfl (by simp [conj]) ?_
    refine run_loop ?_
    refine run_inv (ι := Nat) hpin (fun k => k ≤ L.length) (fun k => L.length - k) (fun k => [(8, i64 k), (7, .ptr 15 0), (6, .ptr 14 0), (5, i64 j), (3, .ptr 3 0), (2, .ptr 2 0)]) (fun _ => []) (fun _ => [(15, .cells [.und, .und, .und, .sq 19 off' 0 1 L.length .no] 81), (14, .cells [.und, .und, .und, .sq 18 off 0 1 L.length .no] 81), (3, .cells [u64 T, .sq 1 0 0 4 n .no] 67), (2, .cells [u64 T, .sq 0 0 0 4 n .no] 67)]) 20 0 (Nat.zero_le _) [0, 1, 2, 3, 4, 5, 6, 7, 8, 9, 10, 11, 12, 13, 14, 15, 16, 17, 18, 19] rfl rfl (by simp [conj, less_rfl, ren_lrow, ren_rowL]) ?_
    intro k hk ihk
    refine goL hB rfl rfl (by simp [conj]) ?_
    by_cases hk1 : k < L.length
    · clear ih
      refine run_tt (by simpa using hk1) ?_
      have ihk := ihk (k + 1) (by omega) (by omega)
      refine goT hB [(26, 85)] 400 rfl (by simp [conj]; omega) ?_
      refine run_ff (by simp) ?_
      refine goL hB rfl rfl (by simp [conj, Fits_i64]; omega) ?_
      refine run_back ?_
      refine run_to hpin [0, 1, 2, 3, 4, 5, 6, 7, 8, 9, 10, 11, 12, 13, 14, 15, 16, 17, 18, 19] rfl rfl ?_ ihk
      clear ihk
      simp [conj, less_rfl, ren_lrow, ren_rowL]
    · clear ihk
      refine run_ff (by simpa using hk1) ?_
      refine goL hB rfl rfl (by simp [conj, Fits_i64]; omega) ?_
      refine run_back ?_
      refine run_close (.inl rfl) ?_
      refine run_close (.inl rfl) ?_
      refine run_to hpin [0, 1, 2, 3] rfl rfl ?_ ih
      clear ih
      simp [conj, less_rfl, ren_lrow]
  · clear ih
    refine run_ff (by simpa using hj1) ?_
    refine goL hB rfl rfl (by simp [conj]) ?_
    refine run_retC hpin () trivial [0, 1] rfl rfl (by simp [conj]) rfl ?_
    simp [conj, less_rfl, ren_lrow]
end Sx
