/- Chapter 47's reference: what its search gives. Conditions: as each theorem says. -/
import Derived.Test.YtdjckiilfplnfaaJp
set_option linter.unusedSimpArgs false
set_option linter.unusedVariables false
namespace Sx
open Go Go.Proofs
/-- The marks of a state. -/
def MkR (q : SQ) (s : St) (M : List (List Int)) : List (List Int) := if s.1 &&& q.du = q.du then M ++ [s.2] else M
/-- What the reference's search adds. -/
def SpR (q : SQ) (s : St) (M : List (List Int)) (w : List Int) : Prop :=
  (q.last = true ∧ ∃ A, Rch q s (A, w) ∧ A &&& q.dn = q.dn) ∨ (q.last = false ∧ ((w ∈ M ∧ Whole q s) ∨ ∃ A, Rch q s (A, w) ∧ Whole q (A, w) ∧ A &&& q.du = q.du))
def TopR (q : SQ) (s : St) (M : List (List Int)) (w : List Int) : Prop := s.1 &&& q.dn = q.dn ∧ ((q.last = true ∧ w = s.2) ∨ (q.last = false ∧ w ∈ MkR q s M))
/-- How many of the first i do not stand. -/
def cntU (A : Nat) (i : Nat) : Nat := cntB (fun j => !A.testBit j) i
/-- How many vectors the search may add. -/
def cntR (n : Nat) : Nat → Nat
  | 0 => n + 1
  | k + 1 => (n + 1) + (k + 1) * cntR n k
/-- A vector of N blocks. -/
def GV (N : Nat) (v : List Int) : Prop := v.length = 8 ∧ ∀ k, N ≤ k → v.getD k 0 = 0
/-- Vectors, as they lie. -/
def VL (K : Kn) (N : Nat) (X : List (List Int)) (W : Nat → Value) : Prop := ∀ i, i < X.length → GV N (X.getD i []) ∧ Froz K (W i) N 1 (urow (fun k => (X.getD i []).getD k 0))
theorem VL.fz {B B' : Base} {K K' : Kn} {N : Nat} {X : List (List Int)} {W : Nat → Value} (h : VL K N X W) (g : Fz B K M0 B' K') : VL K' N X W := fun i hi => ⟨(h i hi).1, (h i hi).2.fz g⟩
theorem VL.nil (K : Kn) (N : Nat) (W : Nat → Value) : VL K N [] W := fun i hi => absurd hi (Nat.not_lt_zero _)
def catW (n : Nat) (W W' : Nat → Value) : Nat → Value := fun i => if i < n then W i else W' (i - n)
theorem VL.one {K : Kn} {N : Nat} {v : List Int} {w : Value} (h : GV N v) (g : Froz K w N 1 (urow fun k => v.getD k 0)) : VL K N [v] (fun _ => w) := by
  intro i hi
  have : i = 0 := by simpa using hi
  subst this
  exact ⟨h, g⟩
end Sx
