/- Chapter 47's reference: what its search gives. Conditions: as each theorem says. -/
import Derived.Test.YtdjckiilfplnfaaJp
set_option linter.unusedSimpArgs false
set_option linter.unusedVariables false
namespace Sx
open Go Go.Proofs
theorem mask_sub (p : Nat → Bool) (n A : Nat) : A &&& maskN p n = maskN p n ↔ ∀ j, j < n → p j = true → A.testBit j = true := by
  constructor
  · intro h j hj hp
    have := congrArg (fun x => x.testBit j) h
    simp only [Nat.testBit_and, maskN_bit, decide_eq_true hj, hp, Bool.true_and, Bool.and_true] at this
    exact this
  · intro h
    apply Nat.eq_of_testBit_eq
    intro j
    rw [Nat.testBit_and, maskN_bit]
    by_cases hj : j < n
    · cases hp : p j with
      | true => rw [h j hj hp]; rfl
      | false => simp
    · simp [hj]
theorem andn_bit (b A j : Nat) (hb : b < 65536) : (andn b A).testBit j = (b.testBit j && !A.testBit j) := by
  unfold andn
  rw [BitVec.testBit_toNat, BitVec.getLsbD_and, BitVec.getLsbD_not, BitVec.getLsbD_ofNat, BitVec.getLsbD_ofNat]
  by_cases hj : j < 16
  · simp [hj]
  · have : b.testBit j = false := by
      apply Nat.testBit_lt_two_pow
      exact Nat.lt_of_lt_of_le hb (Nat.pow_le_pow_right (n := 2) (by decide) (show 16 ≤ j by omega))
    simp [this]
theorem andn_zero (p : Nat → Bool) (n A : Nat) (hn : n ≤ 16) : andn (maskN p n) A = 0 ↔ ∀ j, j < n → p j = true → A.testBit j = true := by
  have hb := maskN_lt p n hn
  constructor
  · intro h j hj hp
    have := congrArg (fun x => x.testBit j) h
    simp only [andn_bit _ _ _ hb, maskN_bit, decide_eq_true hj, hp, Bool.true_and, Nat.zero_testBit, Bool.not_eq_false'] at this
    exact this
  · intro h
    apply Nat.eq_of_testBit_eq
    intro j
    rw [andn_bit _ _ _ hb, maskN_bit, Nat.zero_testBit]
    by_cases hj : j < n
    · cases hp : p j with
      | true => rw [h j hj hp]; simp
      | false => simp
    · simp [hj]
/-- The marks of a state. -/
def MkR (q : SQ) (s : St) (M : List (List Int)) : List (List Int) := if s.1 &&& q.du = q.du then M ++ [s.2] else M
/-- What the reference's search adds. -/
def SpR (q : SQ) (s : St) (M : List (List Int)) (w : List Int) : Prop :=
  (q.last = true ∧ ∃ A, Rch q s (A, w) ∧ A &&& q.dn = q.dn) ∨ (q.last = false ∧ ((w ∈ M ∧ Whole q s) ∨ ∃ A, Rch q s (A, w) ∧ Whole q (A, w) ∧ A &&& q.du = q.du))
def TopR (q : SQ) (s : St) (M : List (List Int)) (w : List Int) : Prop := s.1 &&& q.dn = q.dn ∧ ((q.last = true ∧ w = s.2) ∨ (q.last = false ∧ w ∈ MkR q s M))
theorem mk_mem (q : SQ) (s : St) (M : List (List Int)) (w : List Int) : w ∈ MkR q s M ↔ w ∈ M ∨ (s.1 &&& q.du = q.du ∧ w = s.2) := by
  unfold MkR
  split
  · rename_i h; rw [List.mem_append, List.mem_singleton]; simp [h]
  · rename_i h; simp [h]
theorem spR_iff (q : SQ) (s : St) (M : List (List Int)) (w : List Int) : SpR q s M w ↔ TopR q s M w ∨ ∃ i, i < q.n ∧ StpI q s i ∧ SpR q (chI q s i) (MkR q s M) w := by
  unfold TopR SpR
  cases hl : q.last with
  | true =>
    simp only [Bool.true_eq_false, Bool.false_eq_true, false_and, true_and, or_false, reduceCtorEq]
    constructor
    · rintro ⟨A, h, g⟩
      rcases (rch_iff q s (A, w)).1 h with e | ⟨i, h1, h2, h3⟩
      · subst e; exact .inl ⟨g, rfl⟩
      · exact .inr ⟨i, h1, h2, A, h3, g⟩
    · rintro (⟨h, rfl⟩ | ⟨i, h1, h2, A, h3, g⟩)
      · exact ⟨s.1, .refl s, h⟩
      · exact ⟨A, .step i h1 h2 h3, g⟩
  | false =>
    simp only [Bool.true_eq_false, Bool.false_eq_true, false_and, true_and, false_or, reduceCtorEq]
    constructor
    · rintro (⟨h, g⟩ | ⟨A, h, g, g2⟩)
      · rcases (whole_iff q s).1 g with g | ⟨i, h1, h2, h3⟩
        · exact .inl ⟨g, (mk_mem q s M w).2 (.inl h)⟩
        · exact .inr ⟨i, h1, h2, .inl ⟨(mk_mem q s M w).2 (.inl h), h3⟩⟩
      · rcases (rch_iff q s (A, w)).1 h with e | ⟨i, h1, h2, h3⟩
        · subst e
          rcases (whole_iff q (A, w)).1 g with g | ⟨i, h1, h2, h3⟩
          · exact .inl ⟨g, (mk_mem q _ M w).2 (.inr ⟨g2, rfl⟩)⟩
          · exact .inr ⟨i, h1, h2, .inl ⟨(mk_mem q _ M w).2 (.inr ⟨g2, rfl⟩), h3⟩⟩
        · exact .inr ⟨i, h1, h2, .inr ⟨A, h3, g, g2⟩⟩
    · rintro (⟨h, g⟩ | ⟨i, h1, h2, ⟨g, g2⟩ | ⟨A, h3, g, g2⟩⟩)
      · rcases (mk_mem q s M w).1 g with g | ⟨g3, rfl⟩
        · exact .inl ⟨g, s, .refl s, h⟩
        · exact .inr ⟨s.1, .refl s, ⟨s, .refl s, h⟩, g3⟩
      · rcases (mk_mem q s M w).1 g with g | ⟨g3, rfl⟩
        · exact .inl ⟨g, (whole_iff q s).2 (.inr ⟨i, h1, h2, g2⟩)⟩
        · exact .inr ⟨s.1, .refl s, (whole_iff q s).2 (.inr ⟨i, h1, h2, g2⟩), g3⟩
      · exact .inr ⟨A, .step i h1 h2 h3, g, g2⟩
theorem spR_aft (P : Nat → PT) (n : Nat) (last : Bool) (hn : n ≤ 12) (l w : List Int) : SpR (sqOf P n last) (0, l) [] w ↔ (lget (aftL P n last l) w).isSome = true := by
  rw [aft_law P n last hn l w]
  unfold SpR goodS
  have hl : (sqOf P n last).last = last := rfl
  rw [hl]
  cases last with
  | true =>
    simp only [Bool.true_eq_false, false_and, true_and, or_false, cond_true, decide_eq_true_iff]
    exact ⟨fun ⟨A, h, g⟩ => ⟨A, h, ⟨_, .refl _, g⟩, g⟩, fun ⟨A, h, _, g⟩ => ⟨A, h, g⟩⟩
  | false =>
    simp only [Bool.false_eq_true, false_and, true_and, false_or, cond_false, decide_eq_true_iff, List.not_mem_nil]
/-- How many of the first i do not stand. -/
def cntU (A : Nat) (i : Nat) : Nat := cntB (fun j => !A.testBit j) i
theorem cntU_succ (A i : Nat) : cntU A (i + 1) = cntU A i + (bif A.testBit i then 0 else 1) := by
  unfold cntU
  show cntB (fun j => !A.testBit j) i + (bif (!A.testBit i) then 1 else 0) = cntB (fun j => !A.testBit j) i + (bif A.testBit i then 0 else 1)
  cases A.testBit i <;> rfl
theorem cntU_or (A i : Nat) (h : A.testBit i = false) : ∀ m, cntU (A ||| 2 ^ i) m + (if i < m then 1 else 0) = cntU A m
  | 0 => rfl
  | m + 1 => by
    have ih := cntU_or A i h m
    rw [cntU_succ, cntU_succ, Nat.testBit_or]
    by_cases e : m = i
    · subst e
      rw [Nat.testBit_two_pow_self, Bool.or_true, h, if_pos (Nat.lt_succ_self _)]
      rw [if_neg (Nat.lt_irrefl _)] at ih
      show _ + 0 + 1 = _ + 1
      omega
    · rw [Nat.testBit_two_pow_of_ne (fun q => e q.symm), Bool.or_false]
      by_cases hl : i < m
      · rw [if_pos hl] at ih
        rw [if_pos (by omega)]
        omega
      · rw [if_neg hl] at ih
        rw [if_neg (by omega)]
        omega
/-- How many vectors the search may add. -/
def cntR (n : Nat) : Nat → Nat
  | 0 => n + 1
  | k + 1 => (n + 1) + (k + 1) * cntR n k
/-- A vector of N blocks. -/
def GV (N : Nat) (v : List Int) : Prop := v.length = 8 ∧ ∀ k, N ≤ k → v.getD k 0 = 0
/-- Vectors, as they lie. -/
def VL (K : Kn) (N : Nat) (X : List (List Int)) (W : Nat → Value) : Prop := ∀ i, i < X.length → GV N (X.getD i []) ∧ Froz K (W i) N 1 (urow (fun k => (X.getD i []).getD k 0))
theorem VL.fz {B B' : Base} {K K' : Kn} {N : Nat} {X : List (List Int)} {W : Nat → Value} (h : VL K N X W) (g : Fz B K M0 B' K') : VL K' N X W := fun i hi => ⟨(h i hi).1, (h i hi).2.fz g⟩
theorem VL.nil (K : Kn) (N : Nat) (W : Nat → Value) : VL K N [] W := fun i hi => absurd hi (Nat.not_lt_zero _)
theorem getD_app_l {α : Type} (X Y : List α) (d : α) {i : Nat} (h : i < X.length) : (X ++ Y).getD i d = X.getD i d := by
  rw [List.getD_eq_getElem?_getD, List.getElem?_append_left h, ← List.getD_eq_getElem?_getD]
theorem getD_app_r {α : Type} (X Y : List α) (d : α) {i : Nat} (h : X.length ≤ i) : (X ++ Y).getD i d = Y.getD (i - X.length) d := by
  rw [List.getD_eq_getElem?_getD, List.getElem?_append_right h, ← List.getD_eq_getElem?_getD]
def catW (n : Nat) (W W' : Nat → Value) : Nat → Value := fun i => if i < n then W i else W' (i - n)
theorem VL.app {K : Kn} {N : Nat} {X Y : List (List Int)} {W W' : Nat → Value} (h : VL K N X W) (g : VL K N Y W') : VL K N (X ++ Y) (catW X.length W W') := by
  intro i hi
  rw [List.length_append] at hi
  unfold catW
  by_cases q : i < X.length
  · rw [getD_app_l _ _ _ q, if_pos q]; exact h i q
  · rw [getD_app_r _ _ _ (by omega), if_neg q]; exact g _ (by omega)
theorem VL.one {K : Kn} {N : Nat} {v : List Int} {w : Value} (h : GV N v) (g : Froz K w N 1 (urow fun k => v.getD k 0)) : VL K N [v] (fun _ => w) := by
  intro i hi
  have : i = 0 := by simpa using hi
  subst this
  exact ⟨h, g⟩
end Sx
