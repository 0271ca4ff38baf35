/- The reference of chapter 44: New. Conditions: as each theorem says. -/
import Derived.Test.YtlpbmlfejiaamaaNzd
set_option linter.unusedSimpArgs false
set_option linter.unusedVariables false
namespace Sx
open Go Go.Proofs
set_option maxRecDepth 100000
set_option pp.deepTerms true
set_option pp.maxSteps 10000000
/-- Groups at the start. -/
abbrev gs0 (n : Int) : GS := ⟨0, n, fun _ => 1, fun _ => 0, fun _ => 0, fun _ => false, fun _ => 0⟩
abbrev V0 : Nat → Value := fun _ => .slice none 0 0
theorem less_new (n : Int) (j a b : Nat) (ha : a < j + 1) (hb : b < 4) : Less (rrow (gs0 n) V0 a b) (appF (rrow (gs0 n) V0) j (fun i k => [i64 1, i64 0, SV.int IntKind.u64 0, SV.nilsl].getD ((0 + i) * 4 + k) SV.und) a b) := by
  by_cases e : a = j
  · subst e
    simp only [appF, blt_self, cond_false, Nat.sub_self]
    match b, hb with
    | 0, _ => exact Less.rfl
    | 1, _ => exact Less.rfl
    | 2, _ => exact Less.rfl
    | 3, _ => exact fun β x h => ⟨h, rfl⟩
  · have hlt : Nat.blt a j = true := by rw [Nat.blt_eq]; omega
    simp only [appF, hlt, cond_true]
    exact Less.rfl
theorem newR_hcx (K : Kn) (n : Int) (hn : 1 ≤ n ∧ n ≤ 128) : HCX Try.prog K M0 16 [i64 n] [] [] 0 (fun vL' K' => Froz K' vL' n.toNat 4 (rrow (gs0 n) V0)) (fun vL' => ⟨.tup [RG vL' 0, i64 0], [], 0⟩) := by
  refine hcx_of_run Try.func16 rfl (fun B hB hK hpin => ?_)
  have hF0 : Fz B K M0 B K := .refl hB hK
  refine goT hB [(16, 7)] 400 rfl (by first | exact conj_nil | simp [conj]) ?_
  refine run_ff (by simp; omega) ?_
  refine goT hB [(16, 10)] 400 rfl (by first | exact conj_nil | simp [conj]) ?_
  refine run_ff (by simp; omega) ?_
  refine goR hB rfl rfl (by first | exact conj_nil | simp [conj]) ?_
  refine run_loop ?_
  refine run_inv (ι := Nat) hpin (fun j => j ≤ n.toNat) (fun j => n.toNat - j) (fun j => [(5, i64 j), (4, .ptr 1 0), (2, .ptr 0 0), (0, i64 n)]) (fun _ => []) (fun j => [(0, .cells [.nilsl, i64 0] 37), (1, .cells [.sq 2 0 0 4 j .own, i64 0] 37), (2, .row 0 j j 4 (rrow (gs0 n) V0) 51)]) 3 0 (Nat.zero_le _) [0, 1, 2] rfl rfl (by simp [conj, less_rfl, ren_rrow]) ?_
  intro j hj ih
  refine goR hB rfl rfl (by simp [conj]) ?_
  refine run_cond rfl (fun hh => ?_) (fun hh => ?_)
  · have hj1 : (j : Int) < n := by simpa using hh
    have ih := ih (j + 1) (by omega) (by omega)
    refine goR hB rfl rfl (by simp [conj, Fits_i64]; omega) ?_
    refine run_back ?_
    refine run_to hpin [0, 1, 4] rfl rfl ?_ ih
    clear ih
    simp only [conj, ren_rrow]
    repeat' (first | exact trivial | exact rfl | exact (less_rfl _).mpr trivial | exact fun a b ha hb => less_new n j a b ha hb | (intro _ _ _ _; rfl) | exact Nat.le_refl _ | exact id | apply And.intro)
  · clear ih
    have hjn : n.toNat = j := by simp at hh; omega
    rw [hjn]
    refine goR hB rfl rfl (by simp [conj]) ?_
    refine run_freezeB (L := 2) (off := 0) (sz := 4) (m := j) (ap := .own) hB hK 0 0 rfl rfl rfl rfl (Nat.le_refl _) (fun a b _ hb => closed_rrow _ _ _ _) rfl (fun _ => rfl) (fun _ => rfl) ?_
    intro v B2 K2 hv hF2 hp2
    refine run_retF hF2 (hpin.fz hF2 hp2) v hv [] rfl rfl (by first | exact conj_nil | simp [conj]) rfl ?_
    simp [conj]
theorem newR_lo (n : Int) (hn : n < 1) : HC Try.prog 16 [i64 n] [] [] 0 (fun _ : Unit => True) (fun _ => ⟨.tup [.agg [.nilsl, i64 0], i64 2], [], 0⟩) := by
  refine hc_of_run Try.func16 rfl (fun B hB hpin => ?_)
  refine goT hB [(16, 7)] 400 rfl (by first | exact conj_nil | simp [conj]) ?_
  refine run_tt (by simp; omega) ?_
  refine goR hB rfl rfl (by first | exact conj_nil | simp [conj]) ?_
  exact run_retC hpin () trivial [] rfl rfl (by first | exact conj_nil | simp [conj]) rfl (by first | exact conj_nil | simp [conj])
theorem newR_hi (n : Int) (hn : 128 < n) : HC Try.prog 16 [i64 n] [] [] 0 (fun _ : Unit => True) (fun _ => ⟨.tup [.agg [.nilsl, i64 0], i64 2], [], 0⟩) := by
  refine hc_of_run Try.func16 rfl (fun B hB hpin => ?_)
  refine goT hB [(16, 7)] 400 rfl (by first | exact conj_nil | simp [conj]) ?_
  refine run_ff (by simp; omega) ?_
  refine goT hB [(16, 10)] 400 rfl (by first | exact conj_nil | simp [conj]) ?_
  refine run_tt (by simp; omega) ?_
  refine goR hB rfl rfl (by first | exact conj_nil | simp [conj]) ?_
  exact run_retC hpin () trivial [] rfl rfl (by first | exact conj_nil | simp [conj]) rfl (by first | exact conj_nil | simp [conj])
end Sx
