/- number and little of the reference. Conditions: as each theorem says. -/
import Derived.Test.YtmnlmghchegjaaaRta
set_option linter.unusedSimpArgs false
set_option linter.unusedVariables false
namespace Sx
open Go Go.Proofs
set_option maxRecDepth 100000
set_option pp.deepTerms true
set_option pp.maxSteps 10000000
/-- The number of n bytes from s on. -/
def numB (g : Nat → Int) : Nat → Nat → Int
  | _, 0 => 0
  | s, n + 1 => g s + 256 * numB g (s + 1) n
def Bytes8 (g : Nat → Int) : Prop := ∀ i, 0 ≤ g i ∧ g i < 256
theorem numB_lt {g : Nat → Int} (hg : Bytes8 g) : ∀ (n s : Nat), 0 ≤ numB g s n ∧ numB g s n < 256 ^ n
  | 0, s => by simp [numB]
  | n + 1, s => by
    obtain ⟨a, b⟩ := numB_lt hg n (s + 1)
    obtain ⟨c, d⟩ := hg s
    have : (256 : Int) ^ (n + 1) = 256 ^ n * 256 := Int.pow_succ _ _
    simp only [numB]
    omega
theorem byteOf_numB {g : Nat → Int} (hg : Bytes8 g) : ∀ (n s i : Nat), i < n → byteOf (numB g s n) i = g (s + i)
  | 0, s, i, hi => absurd hi (Nat.not_lt_zero i)
  | n + 1, s, 0, hi => by
    obtain ⟨c, d⟩ := hg s
    simp only [byteOf, numB]
    simp
    omega
  | n + 1, s, i + 1, hi => by
    obtain ⟨c, d⟩ := hg s
    have ih := byteOf_numB hg n (s + 1) i (by omega)
    simp only [byteOf, numB] at ih ⊢
    have e : (2 : Int) ^ (8 * (i + 1)) = 256 * 2 ^ (8 * i) := by
      rw [show 8 * (i + 1) = 8 * i + 8 by omega, Int.pow_add]
      omega
    rw [e, ← Int.ediv_ediv_of_nonneg (by omega), show (g s + 256 * numB g (s + 1) n) / 256 = numB g (s + 1) n by omega, ih, show s + 1 + i = s + (i + 1) by omega]
theorem number_hc (g : Nat → Int) (hg : Bytes8 g) (s n N cap : Nat) (h8 : n ≤ 8) (hN : s + n ≤ N) (off : Nat := 0) :
    HC Try.prog 61 [.sq 0 off s 1 n .no] [] [(0, .row off N cap 1 (byt g) anyTy)] 1 (fun _ : Unit => True) (fun _ => ⟨u64 (numB g s n), [], 1⟩) := by
  refine hc_of_run Try.func61 rfl (fun B hB hpin => ?_)
  refine goV2 hB rfl rfl (by simp [conj, Fits_i64]; omega) ?_
  refine run_loop ?_
  refine run_inv (ι := Nat) hpin (fun k => k ≤ n) (fun k => n - k) (fun k => [(4, i64 ((n : Int) - 1 - (k : Int))), (3, u64 (numB g (s + n - k) k)), (0, .sq 0 off s 1 n .no)]) (fun _ => []) (fun _ => []) 1 0 (Nat.zero_le _)
    [0] rfl rfl (by simp [conj, less_rfl, ren_byt, numB]) ?_
  intro k hk ih
  refine goV2 hB rfl rfl (by simp [conj]) ?_
  refine run_cond rfl (fun h => ?_) (fun h => ?_)
  · have hk1 : k < n := by simp at h; omega
    have ih := ih (k + 1) (by omega) (by omega)
    refine goV2 hB rfl rfl (by simp [conj, Fits_i64]; omega) ?_
    refine run_back ?_
    refine run_to hpin [0] rfl rfl ?_ ih
    clear ih
    simp [conj, less_rfl, ren_byt]
    have e1 : s + n - k = s + n - (k + 1) + 1 := by omega
    have e2 : s + (n - 1 - k) = s + n - (k + 1) := by omega
    obtain ⟨a, b⟩ := numB_lt hg k (s + n - k)
    obtain ⟨c, d⟩ := hg (s + n - (k + 1))
    have hp : ∀ j : Nat, j < 8 → (256 : Int) ^ j ≤ 72057594037927936 := by decide
    have hp := hp k (by omega)
    rw [e2, wrap64, wrap64, wrap64]
    refine ⟨by omega, ?_⟩
    rw [e1] at a b ⊢
    simp only [numB]
    omega
  · clear ih
    have : k = n := by simp at h; omega
    subst this
    refine goV2 hB rfl rfl (by simp [conj]) ?_
    refine run_retC hpin () trivial [0] rfl rfl (by simp [conj]) rfl ?_
    simp [conj, less_rfl, ren_byt]
theorem little_hc (v : Int) (n : Nat) (h8 : n ≤ 8) :
    HC Try.prog 62 [u64 v, i64 n] [] [] 0 (fun _ : Unit => True) (fun _ => ⟨.sq 0 0 0 1 n .own, [(0, .row 0 n n 1 (byR v) 5)], 1⟩) := by
  refine hc_of_run Try.func62 rfl (fun B hB hpin => ?_)
  refine goV2 hB rfl rfl (by simp [conj]) ?_
  refine run_loop ?_
  refine run_inv (ι := Nat) hpin (fun k => k ≤ n) (fun k => n - k) (fun k => [(6, i64 k), (5, .sq 0 0 0 1 k .own), (0, u64 v), (1, i64 n)]) (fun _ => []) (fun k => [(0, .row 0 k k 1 (byR v) 5)]) 1 0 (Nat.zero_le _)
    [0] rfl rfl (by simp [conj, less_rfl, ren_byR]) ?_
  intro k hk ih
  refine goV2 hB rfl rfl (by simp [conj]) ?_
  refine run_cond rfl (fun h => ?_) (fun h => ?_)
  · have hk1 : k < n := by simpa using h
    have ih := ih (k + 1) (by omega) (by omega)
    refine goV2 hB rfl rfl (by simp [conj, Fits_i64]; omega) ?_
    refine run_back ?_
    refine run_to hpin [2] rfl rfl ?_ ih
    clear ih
    simp [conj, less_rfl, ren_byR, renR_byR]
    intro i hi
    refine Less.of ?_
    rw [shr_eq v k (by omega), wrap8]
    unfold appF
    by_cases e : i < k
    · rw [blt_true e]; rfl
    · have e2 : i = k := by omega
      subst e2
      rw [blt_false e]
      simp [byR, byteOf]
  · clear ih
    have : k = n := by simp at h; omega
    subst this
    refine goV2 hB rfl rfl (by simp [conj]) ?_
    refine run_retC hpin () trivial [0] rfl rfl (by simp [conj]) rfl ?_
    simp [conj, less_rfl, ren_byR]
end Sx
