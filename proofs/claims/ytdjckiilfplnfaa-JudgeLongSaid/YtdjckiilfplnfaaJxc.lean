/- Chapter 47's reference: what its search gives. Conditions: as each theorem says. -/
import Derived.Test.YtdjckiilfplnfaaJp
set_option linter.unusedSimpArgs false
set_option linter.unusedVariables false
namespace Sx
open Go Go.Proofs
theorem mask_sub (p : Nat → Bool) (n A : Nat) : A &&& maskN p n = maskN p n ↔ ∀ j, j < n → p j = true → A.testBit j = true := by
  constructor
  · intro h j hj hp
    have := congrArg (fun x => x.testBit j) h
    simp only [Nat.testBit_and, maskN_bit, decide_eq_true hj, hp, Bool.true_and, Bool.and_true] at this
    exact this
  · intro h
    apply Nat.eq_of_testBit_eq
    intro j
    rw [Nat.testBit_and, maskN_bit]
    by_cases hj : j < n
    · cases hp : p j with
      | true => rw [h j hj hp]; rfl
      | false => simp
    · simp [hj]
theorem andn_bit (b A j : Nat) (hb : b < 65536) : (andn b A).testBit j = (b.testBit j && !A.testBit j) := by
  unfold andn
  rw [BitVec.testBit_toNat, BitVec.getLsbD_and, BitVec.getLsbD_not, BitVec.getLsbD_ofNat, BitVec.getLsbD_ofNat]
  by_cases hj : j < 16
  · simp [hj]
  · have : b.testBit j = false := by
      apply Nat.testBit_lt_two_pow
      exact Nat.lt_of_lt_of_le hb (Nat.pow_le_pow_right (n := 2) (by decide) (show 16 ≤ j by omega))
    simp [this]
theorem andn_zero (p : Nat → Bool) (n A : Nat) (hn : n ≤ 16) : andn (maskN p n) A = 0 ↔ ∀ j, j < n → p j = true → A.testBit j = true := by
  have hb := maskN_lt p n hn
  constructor
  · intro h j hj hp
    have := congrArg (fun x => x.testBit j) h
    simp only [andn_bit _ _ _ hb, maskN_bit, decide_eq_true hj, hp, Bool.true_and, Nat.zero_testBit, Bool.not_eq_false'] at this
    exact this
  · intro h
    apply Nat.eq_of_testBit_eq
    intro j
    rw [andn_bit _ _ _ hb, maskN_bit, Nat.zero_testBit]
    by_cases hj : j < n
    · cases hp : p j with
      | true => rw [h j hj hp]; simp
      | false => simp
    · simp [hj]
/-- The marks of a state. -/
def MkR (q : SQ) (s : St) (M : List (List Int)) : List (List Int) := if s.1 &&& q.du = q.du then M ++ [s.2] else M
/-- What the reference's search adds. -/
def SpR (q : SQ) (s : St) (M : List (List Int)) (w : List Int) : Prop :=
  (q.last = true ∧ ∃ A, Rch q s (A, w) ∧ A &&& q.dn = q.dn) ∨ (q.last = false ∧ ((w ∈ M ∧ Whole q s) ∨ ∃ A, Rch q s (A, w) ∧ Whole q (A, w) ∧ A &&& q.du = q.du))
def TopR (q : SQ) (s : St) (M : List (List Int)) (w : List Int) : Prop := s.1 &&& q.dn = q.dn ∧ ((q.last = true ∧ w = s.2) ∨ (q.last = false ∧ w ∈ MkR q s M))
/-- How many of the first i do not stand. -/
def cntU (A : Nat) (i : Nat) : Nat := cntB (fun j => !A.testBit j) i
/-- How many vectors the search may add. -/
def cntR (n : Nat) : Nat → Nat
  | 0 => n + 1
  | k + 1 => (n + 1) + (k + 1) * cntR n k
/-- A vector of N blocks. -/
def GV (N : Nat) (v : List Int) : Prop := v.length = 8 ∧ ∀ k, N ≤ k → v.getD k 0 = 0
/-- Vectors, as they lie. -/
def VL (K : Kn) (N : Nat) (X : List (List Int)) (W : Nat → Value) : Prop := ∀ i, i < X.length → GV N (X.getD i []) ∧ Froz K (W i) N 1 (urow (fun k => (X.getD i []).getD k 0))
theorem VL.fz {B B' : Base} {K K' : Kn} {N : Nat} {X : List (List Int)} {W : Nat → Value} (h : VL K N X W) (g : Fz B K M0 B' K') : VL K' N X W := fun i hi => ⟨(h i hi).1, (h i hi).2.fz g⟩
theorem VL.nil (K : Kn) (N : Nat) (W : Nat → Value) : VL K N [] W := fun i hi => absurd hi (Nat.not_lt_zero _)
def catW (n : Nat) (W W' : Nat → Value) : Nat → Value := fun i => if i < n then W i else W' (i - n)
theorem VL.one {K : Kn} {N : Nat} {v : List Int} {w : Value} (h : GV N v) (g : Froz K w N 1 (urow fun k => v.getD k 0)) : VL K N [v] (fun _ => w) := by
  intro i hi
  have : i = 0 := by simpa using hi
  subst this
  exact ⟨h, g⟩
end Sx
