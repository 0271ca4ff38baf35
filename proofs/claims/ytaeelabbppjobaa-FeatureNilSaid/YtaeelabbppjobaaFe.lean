/- Masks: which values have no other bits than a mask's. Conditions: as each theorem says. -/
import Derived.Test.YtaeelabbppjobaaFd
set_option linter.unusedSimpArgs false
set_option linter.unusedVariables false
namespace Sx
open Go Go.Proofs
set_option maxRecDepth 100000
/-- The bits of v that m has not. -/
def andn (v m : Int) : Int := IntKind.u32.wrap (BitVec.ofInt IntKind.u32.bits v &&& ~~~ BitVec.ofInt IntKind.u32.bits m).toNat
theorem andn_zero (n m : Nat) : andn n m = 0 ↔ ∀ i, i < 32 → n.testBit i = true → m.testBit i = true := by
  have hb : IntKind.u32.bits = 32 := rfl
  unfold andn
  have e0 : IntKind.u32.wrap ((BitVec.ofInt 32 (n : Int) &&& ~~~ BitVec.ofInt 32 (m : Int)).toNat : Int) = ((BitVec.ofInt 32 (n : Int) &&& ~~~ BitVec.ofInt 32 (m : Int)).toNat : Int) := by
    have := (BitVec.ofInt 32 (n : Int) &&& ~~~ BitVec.ofInt 32 (m : Int)).isLt
    generalize (BitVec.ofInt 32 (n : Int) &&& ~~~ BitVec.ofInt 32 (m : Int)).toNat = y at this
    simp [IntKind.wrap, IntKind.signed, IntKind.bits]
    omega
  rw [show (IntKind.u32.wrap ((BitVec.ofInt IntKind.u32.bits (n : Int) &&& ~~~ BitVec.ofInt IntKind.u32.bits (m : Int)).toNat : Int)) = IntKind.u32.wrap ((BitVec.ofInt 32 (n : Int) &&& ~~~ BitVec.ofInt 32 (m : Int)).toNat : Int) from rfl, e0]
  rw [BitVec.ofInt_natCast, BitVec.ofInt_natCast]
  constructor
  · intro h i hi hn
    have h0 : (BitVec.ofNat 32 n &&& ~~~ BitVec.ofNat 32 m) = 0#32 := by
      apply BitVec.eq_of_toNat_eq
      simpa using (by omega : (BitVec.ofNat 32 n &&& ~~~ BitVec.ofNat 32 m).toNat = 0)
    have := congrArg (fun x => x.getLsbD i) h0
    simp only [BitVec.getLsbD_and, BitVec.getLsbD_not, BitVec.getLsbD_ofNat, hi, hn, decide_true, Bool.true_and, BitVec.getLsbD_zero] at this
    simpa using this
  · intro h
    have h0 : (BitVec.ofNat 32 n &&& ~~~ BitVec.ofNat 32 m) = 0#32 := by
      apply BitVec.eq_of_getLsbD_eq
      intro i hi
      have := h i hi
      simp only [BitVec.getLsbD_and, BitVec.getLsbD_not, BitVec.getLsbD_ofNat, hi, decide_true, Bool.true_and, BitVec.getLsbD_zero]
      cases hn : n.testBit i with
      | true => rw [this hn]; simp
      | false => simp
    rw [h0]; rfl
theorem bit_iff (n i : Nat) : n.testBit i = true ↔ n / 2 ^ i % 2 = 1 := by
  rw [Nat.testBit_eq_decide_div_mod_eq]; simp
theorem low_mask (n k : Nat) (hn : n < 2 ^ 32) (hk : k ≤ 32) : andn n ((2 ^ k - 1 : Nat) : Int) = 0 ↔ n < 2 ^ k := by
  rw [andn_zero]
  constructor
  · intro h
    apply Nat.lt_pow_two_of_testBit
    intro i hi
    cases hb : n.testBit i with
    | false => rfl
    | true =>
      rcases Nat.lt_or_ge i 32 with g | g
      · have := h i g hb
        rw [Nat.testBit_two_pow_sub_one] at this
        simp at this; omega
      · rw [Nat.testBit_lt_two_pow (Nat.lt_of_lt_of_le hn (Nat.pow_le_pow_right (by omega) g))] at hb; cases hb
  · intro h i hi hb
    rw [Nat.testBit_two_pow_sub_one]
    simp
    rcases Nat.lt_or_ge i k with g | g
    · exact g
    · rw [Nat.testBit_lt_two_pow (Nat.lt_of_lt_of_le h (Nat.pow_le_pow_right (by omega) g))] at hb; cases hb
theorem all32 (p : Nat → Bool) (h : (List.range 32).all p = true) (i : Nat) (hi : i < 32) : p i = true := List.all_eq_true.1 h i (List.mem_range.2 hi)
theorem msk1 (n : Nat) (hn : n < 2 ^ 32) : andn n 4294967047 = 0 ↔ (n : Int) / 8 % 32 = 0 := by
  rw [show (4294967047 : Int) = ((4294967047 : Nat) : Int) from rfl, andn_zero]
  constructor
  · intro h
    have g : ∀ i, i < 32 → Nat.testBit 4294967047 i = false → n / 2 ^ i % 2 = 0 := fun i hi hm => by
      cases hb : n.testBit i with
      | true => rw [h i hi hb] at hm; cases hm
      | false =>
        have : ¬ n / 2 ^ i % 2 = 1 := fun e => Bool.false_ne_true (hb.symm.trans ((bit_iff n i).2 e))
        omega
    have g3 := g 3 (by omega) (by decide)
    have g4 := g 4 (by omega) (by decide)
    have g5 := g 5 (by omega) (by decide)
    have g6 := g 6 (by omega) (by decide)
    have g7 := g 7 (by omega) (by decide)
    omega
  · intro h i hi hb
    rw [bit_iff] at hb
    have key : i < 3 ∨ 7 < i := by
      rcases Nat.lt_or_ge i 3 with g | g
      · exact .inl g
      · rcases Nat.lt_or_ge 7 i with g' | g'
        · exact .inr g'
        · exfalso
          have : i = 3 ∨ i = 4 ∨ i = 5 ∨ i = 6 ∨ i = 7 := by omega
          rcases this with rfl | rfl | rfl | rfl | rfl <;> omega
    revert key
    clear hb h
    have := all32 (fun i => !(decide (i < 3) || decide (7 < i)) || Nat.testBit 4294967047 i) (by decide) i hi
    intro key
    simp only [Bool.or_eq_true, Bool.not_eq_true', Bool.or_eq_false_iff, decide_eq_false_iff_not] at this
    rcases this with h | h
    · omega
    · exact h
theorem msk14 (n : Nat) (hn : n < 2 ^ 32) : andn n 14 = 0 ↔ ((n : Int) % 2 = 0 ∧ (n : Int) < 16) := by
  rw [show (14 : Int) = ((14 : Nat) : Int) from rfl, andn_zero]
  constructor
  · intro h
    have g0 : ¬ n.testBit 0 = true := fun hb => by have := h 0 (by omega) hb; revert this; decide
    have hlt : n < 2 ^ 4 := by
      apply Nat.lt_pow_two_of_testBit
      intro i hi
      cases hb : n.testBit i with
      | false => rfl
      | true =>
        rcases Nat.lt_or_ge i 32 with g | g
        · have := h i g hb
          exfalso
          have k := all32 (fun i => !decide (4 ≤ i) || !Nat.testBit 14 i) (by decide) i g
          simp [hi, this] at k
        · rw [Nat.testBit_lt_two_pow (Nat.lt_of_lt_of_le hn (Nat.pow_le_pow_right (by omega) g))] at hb; cases hb
    rw [bit_iff] at g0
    omega
  · rintro ⟨h1, h2⟩ i hi hb
    have hlt : n < 2 ^ 4 := by omega
    have : i < 4 := by
      rcases Nat.lt_or_ge i 4 with g | g
      · exact g
      · rw [Nat.testBit_lt_two_pow (Nat.lt_of_lt_of_le hlt (Nat.pow_le_pow_right (by omega) g))] at hb; cases hb
    rw [bit_iff] at hb
    have h0 : i ≠ 0 := by rintro rfl; omega
    have : i = 1 ∨ i = 2 ∨ i = 3 := by omega
    rcases this with rfl | rfl | rfl <;> decide
theorem msk8 (n : Nat) (hn : n < 2 ^ 32) : andn n 2281704447 = 0 ↔ no8 (n : Int) = true := by
  rw [show (2281704447 : Int) = ((2281704447 : Nat) : Int) from rfl, andn_zero]
  unfold no8
  rw [List.all_eq_true]
  have hbit : ∀ i : Nat, decide ((n : Int) / 2 ^ i % 2 = 1) = n.testBit i := fun i => by
    rw [Bool.eq_iff_iff, bit_iff]
    simp only [decide_eq_true_eq]
    have : ((n : Int) / 2 ^ i % 2) = ((n / 2 ^ i % 2 : Nat) : Int) := by
      rw [Int.natCast_emod, Int.natCast_ediv, Int.natCast_pow]; rfl
    rw [this]; omega
  have hmask : ∀ i, i < 32 → Nat.testBit 2281704447 i = !(!decide (i = 27) && !decide (i = 31) && !decide (i = 11) && decide (9 < i)) := fun i hi => by
    have := all32 (fun i => Nat.testBit 2281704447 i == !(!decide (i = 27) && !decide (i = 31) && !decide (i = 11) && decide (9 < i))) (by decide) i hi
    exact eq_of_beq this
  constructor
  · intro h i hi
    have hi := List.mem_range.1 hi
    unfold bad8
    rw [hbit]
    cases hb : n.testBit i with
    | false => rfl
    | true =>
      have h1 := h i hi hb
      rw [hmask i hi] at h1
      simp only [Bool.true_and]
      rw [← h1]
  · intro h i hi hb
    have h1 := h i (List.mem_range.2 hi)
    unfold bad8 at h1
    rw [hbit, hb] at h1
    rw [hmask i hi]
    rw [← h1]
    simp [Bool.and_assoc]
theorem mskAll (n : Nat) (hn : n < 2 ^ 32) : andn n 4294967295 = 0 := by
  rw [show (4294967295 : Int) = ((2 ^ 32 - 1 : Nat) : Int) from rfl]
  exact (low_mask n 32 hn (by omega)).2 hn
end Sx
