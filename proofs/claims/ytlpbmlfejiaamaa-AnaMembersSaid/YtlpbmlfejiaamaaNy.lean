/- The reference of chapter 44: its readers, at, Find. Conditions: as each theorem says. -/
import Derived.Test.YtlpbmlfejiaamaaNx
import Derived.Test.YtlpbmlfejiaamaaEngX5
set_option linter.unusedSimpArgs false
set_option linter.unusedVariables false
namespace Sx
open Go Go.Proofs
set_option maxRecDepth 100000
set_option pp.deepTerms true
set_option pp.maxSteps 10000000
/-- A group of the reference. -/
def rrow (s : GS) (V : Nat → Value) : Nat → Nat → SV := fun i k => match k with
  | 0 => i64 (s.to i)
  | 1 => i64 (s.fr i)
  | 2 => u64 (s.ch i)
  | _ => .val (V i)
theorem ren_rrow (nx : Nat) (sg : List Nat) (s : GS) (V : Nat → Value) (i k : Nat) : ren nx sg (rrow s V i k) = rrow s V i k := by
  unfold rrow; split <;> simp only [ren, renF, id]
theorem renR_rrow (nx : Nat) (sg : List Nat) (s : GS) (V : Nat → Value) : renR nx sg (rrow s V) = rrow s V := by funext i k; exact ren_rrow nx sg s V i k
/-- The reference in the state of the groups. -/
structure ROK (K : Kn) (s : GS) (l : List Int) (vL : Value) (V : Nat → Value) : Prop where
  g : Froz K vL s.n.toNat 4 (rrow s V)
  m : MOK K s l V s.n.toNat
theorem atR_hc (vL : Value) (n0 now : Int) (ht : 0 ≤ now ∧ now ≤ 1099511627776) : HC Try.prog 72 [.agg [.val vL, i64 n0], i64 now] [] [] 0 (fun _ : Unit => True) (fun _ => ⟨.tup [.agg [.val vL, i64 (max n0 now)], i64 0], [], 0⟩) := by
  refine hc_of_run Try.func72 rfl (fun B hB hpin => ?_)
  refine goL hB rfl rfl (by simp [conj, Fits_i64]) ?_
  refine run_ff (by simp <;> omega) ?_
  refine goW hB [] 3000 rfl (by simp [conj, Fits_i64] <;> omega) ?_
  refine run_retC hpin () trivial [] rfl rfl (by simp [conj]) rfl ?_
  simp [conj]
theorem atR_no (vL : Value) (n0 now : Int) (ht : ¬ (0 ≤ now ∧ now ≤ 1099511627776)) : HC Try.prog 72 [.agg [.val vL, i64 n0], i64 now] [] [] 0 (fun _ : Unit => True) (fun _ => ⟨.tup [.agg [.val vL, i64 n0], i64 2], [], 0⟩) := by
  refine hc_of_run Try.func72 rfl (fun B hB hpin => ?_)
  refine goL hB rfl rfl (by simp [conj, Fits_i64]) ?_
  refine run_tt (by simp <;> omega) ?_
  refine goW hB [] 3000 rfl (by simp [conj, Fits_i64] <;> omega) ?_
  refine run_retC hpin () trivial [] rfl rfl (by simp [conj]) rfl ?_
  simp [conj]
theorem stR_hck (K : Kn) (s : GS) (hs : GOk s) (l : List Int) (vL : Value) (V : Nat → Value) (hR : ROK K s l vL V) (i : Nat) (hi : (i : Int) < s.n) : HCK Try.prog K 73 [.agg [.val vL, i64 s.now], i64 i] [] [] 0 (fun _ : Unit => True) (fun _ => ⟨i64 (stO s ((i : Int) + 1)), [], 0⟩) := by
  have e0 : ((i : Int) + 1 - 1).toNat = i := by omega
  have hlt : i < s.n.toNat := by omega
  refine hck_openA hR.g (by decide) rfl (fun off => hck_of_hc ?_)
  generalize s.n.toNat = n at hlt
  refine hc_of_run Try.func73 rfl (fun B hB hpin => ?_)
  unfold stO
  rw [e0]
  refine goW hB [(73, 13)] 3000 rfl (by simp [conj, Fits_i64] <;> omega) ?_
  have e1 : 0 + ((i : Nat) : Int).toNat = i := by omega
  rw [e1]
  by_cases hq : s.now < s.fr i
  · rw [if_pos hq]
    refine run_tt (by simpa using hq) ?_
    refine goW hB [] 3000 rfl (by simp [conj]) ?_
    refine run_retC hpin () trivial [0] rfl rfl (by simp [conj]) rfl ?_
    simp [conj, less_rfl, ren_rrow]
  · rw [if_neg hq]
    refine run_ff (by simpa using hq) ?_
    refine goW hB [] 3000 rfl (by simp [conj] <;> omega) ?_
    refine run_retC hpin () trivial [0] rfl rfl (by simp [conj]) rfl ?_
    simp [conj, less_rfl, ren_rrow]
end Sx
