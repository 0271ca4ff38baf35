/- Parts in a row; the histories of JudgeLong: plainly. Conditions: as each theorem says. -/
import Derived.Test.YtdjckiilfplnfaaJyb
set_option linter.unusedSimpArgs false
set_option linter.unusedVariables false
namespace Sx
open Go Go.Proofs
set_option maxRecDepth 100000
set_option pp.deepTerms true
set_option pp.maxSteps 10000000
/-- The first parts. -/
def fm (i : Nat) : Nat := maskN (fun _ => true) i
theorem fm_bit (i j : Nat) : (fm i).testBit j = decide (j < i) := by unfold fm; rw [maskN_bit, Bool.and_true]
/-- Parts each of which may follow those before it, in a row. -/
theorem seq_rch {P : Nat → PT} {n : Nat} {last : Bool} (hn : n ≤ 16) (st : Nat → List Int) (hst : ∀ i, i < n → okA (P i) (st i) = true ∧ st (i + 1) = apL (P i) (st i)) (hb : ∀ i k, i < n → k < n → pbf P i k = true → k < i) (i : Nat) :
    ∀ d, i + d ≤ n → Rch (sqOf P n last) (fm i, st i) (fm (i + d), st (i + d))
  | 0, _ => .refl _
  | d + 1, h => by
    refine (seq_rch hn st hst hb i d (by omega)).trans ?_
    have hi : i + d < n := by omega
    obtain ⟨h1, h2⟩ := hst (i + d) hi
    refine .step (i + d) hi ⟨?_, h1⟩ ?_
    · unfold frS
      rw [Bool.and_eq_true, Bool.not_eq_true', decide_eq_true_iff]
      refine ⟨by rw [fm_bit]; simp, (andn_zero (pbf P (i + d)) n (fm (i + d)) hn).2 fun k hk hp => ?_⟩
      rw [fm_bit, decide_eq_true_iff]
      exact hb (i + d) k hi hk hp
    · have : chI (sqOf P n last) (fm (i + d), st (i + d)) (i + d) = (fm (i + (d + 1)), st (i + (d + 1))) := by
        show (fm (i + d) ||| 2 ^ (i + d), apL (P (i + d)) (st (i + d))) = _
        rw [← h2]
        rfl
      rw [this]
      exact .refl _
def HL (n : Nat) (ov : Bool) : Hi := ⟨1, 2, n, fun i => ⟨1, 0, 1, fun _ => 7, if ov = true then 0 else 2 * (i : Int), if ov = true then 1 else 2 * (i : Int) + 1, false⟩, 0, fun _ => 0⟩
def s7 : List Int := [7, 0, 0, 0, 0, 0, 0, 0]
theorem hl_ops (n : Nat) (ov : Bool) : opsE (HL n ov) 0 = List.range n := List.filter_eq_self.2 fun i _ => rfl
theorem hl_p0 (n : Nat) (ov : Bool) : PL (HL n ov) ((0 : Nat) : Int) (opsE (HL n ov) 0) = List.range n := by
  rw [hl_ops]
  refine List.filter_eq_self.2 fun i _ => ?_
  simp [isP, pA, pB, HL]
theorem hl_p1 (n : Nat) (ov : Bool) : PL (HL n ov) ((1 : Nat) : Int) (opsE (HL n ov) 0) = [] := by
  refine List.filter_eq_nil_iff.2 fun i _ => ?_
  simp [isP, pA, pB, HL]
  decide
theorem hl_l0 (n : Nat) (ov : Bool) : lenE (HL n ov) ((0 : Nat) : Int) 0 = n := by unfold lenE; rw [hl_p0, List.length_range]
theorem hl_l1 (n : Nat) (ov : Bool) : lenE (HL n ov) ((1 : Nat) : Int) 0 = 0 := by unfold lenE; rw [hl_p1]; rfl
theorem hl_pt {n : Nat} {ov : Bool} {j : Nat} (hj : j < n) : ptE (HL n ov) ((0 : Nat) : Int) 0 j = ptOf (HL n ov) ((0 : Nat) : Int) (List.range n) j := by
  unfold ptE pts
  rw [hl_p0, hl_ops]
  congr 1
  simp [List.getD_eq_getElem?_getD, hj]
theorem hl_ap (n : Nat) (ov : Bool) (j : Nat) (l : List Int) (hl : l = zV ∨ l = s7) : apL (ptOf (HL n ov) ((0 : Nat) : Int) (List.range n) j) l = s7 := by
  have h1 : (ptOf (HL n ov) ((0 : Nat) : Int) (List.range n) j).f = 0 := by simp [ptOf, pA, HL]
  have h2 : (ptOf (HL n ov) ((0 : Nat) : Int) (List.range n) j).n = 1 := by simp [ptOf, pA, pB, HL]
  have h3 : (ptOf (HL n ov) ((0 : Nat) : Int) (List.range n) j).v = fun _ => 7 := rfl
  unfold apL apF
  rw [h1, h2, h3]
  rcases hl with rfl | rfl <;> rfl
theorem hl_d (n : Nat) (ov : Bool) (j : Nat) : (ptOf (HL n ov) ((0 : Nat) : Int) (List.range n) j).d = true := by
  show decide (0 ≤ (if ov = true then (1 : Int) else 2 * (j : Int) + 1)) = true
  rw [decide_eq_true_iff]
  split <;> omega
theorem hl_w (n : Nat) (ov : Bool) (j : Nat) (l : List Int) : okA (ptOf (HL n ov) ((0 : Nat) : Int) (List.range n) j) l = true := by
  unfold okA
  show (decide ((1 : Int) = 1) || _) = true
  simp
theorem hl_b {n : Nat} {ov : Bool} {i k : Nat} (hi : i < n) (hk : k < n) (h : pbf (ptE (HL n ov) ((0 : Nat) : Int) 0) i k = true) : k < i := by
  unfold pbf at h
  rw [hl_pt hi, hl_pt hk, Bool.and_eq_true, decide_eq_true_iff] at h
  have h := h.2
  have h : (if ov = true then (1 : Int) else 2 * (k : Int) + 1) < (if ov = true then (0 : Int) else 2 * (i : Int)) := h
  cases ov with
  | true => simp at h
  | false => simp at h; omega
theorem hl_fs0 {n : Nat} (ov : Bool) (h1 : 1 ≤ n) (hn : n ≤ 12) (v : List Int) : FS (HL n ov) ((0 : Nat) : Int) 1 v ↔ v = s7 := by
  have key : ∀ l w, (lget (aftL (ptE (HL n ov) ((0 : Nat) : Int) 0) (lenE (HL n ov) ((0 : Nat) : Int) 0) (decide (0 = (HL n ov).nc)) l) w).isSome = true ↔ _ := fun l w => aft_law _ _ _ (by rw [hl_l0]; exact hn) l w
  show (∃ l, l = zV ∧ _) ↔ _
  have hall : ∀ j, j < n → (ptE (HL n ov) ((0 : Nat) : Int) 0 j).d = true := fun j hj => by rw [hl_pt hj]; exact hl_d n ov j
  constructor
  · rintro ⟨l, rfl, h⟩
    rw [key, hl_l0] at h
    obtain ⟨A, g1, _, g3⟩ := h
    have g3 : decide (A &&& maskN (fun i => (ptE (HL n ov) ((0 : Nat) : Int) 0 i).d) n = maskN (fun i => (ptE (HL n ov) ((0 : Nat) : Int) 0 i).d) n) = true := g3
    rw [decide_eq_true_iff, mask_sub] at g3
    have hA := g3 0 (by omega) (hall 0 (by omega))
    have main : ∀ s t, Rch (sqOf (ptE (HL n ov) ((0 : Nat) : Int) 0) n (decide (0 = (HL n ov).nc))) s t → (s.2 = zV ∨ s.2 = s7) → t = s ∨ t.2 = s7 := by
      intro s t g
      induction g with
      | refl s => exact fun _ => .inl rfl
      | step i hi hst _ ih =>
        rename_i s t _
        intro hs
        have hi : i < n := hi
        have hc : (chI (sqOf (ptE (HL n ov) ((0 : Nat) : Int) 0) n (decide (0 = (HL n ov).nc))) s i).2 = s7 := by
          show apL (ptE (HL n ov) ((0 : Nat) : Int) 0 i) s.2 = s7
          rw [hl_pt hi]; exact hl_ap n ov i _ hs
        rcases ih (.inr hc) with e | e
        · right; rw [e]; exact hc
        · exact .inr e
    rcases main _ _ g1 (.inl rfl) with e | e
    · have : A = 0 := congrArg Prod.fst e
      rw [this] at hA
      simp at hA
    · exact e
  · rintro rfl
    refine ⟨zV, rfl, ?_⟩
    rw [key, hl_l0]
    have hr := seq_rch (P := ptE (HL n ov) ((0 : Nat) : Int) 0) (n := n) (last := decide (0 = (HL n ov).nc)) (by omega) (fun i => if i = 0 then zV else s7) (fun i hi => by
      rw [hl_pt hi]
      refine ⟨hl_w n ov i _, ?_⟩
      rw [if_neg (by omega), hl_ap]
      by_cases q : i = 0
      · rw [if_pos q]; exact .inl rfl
      · rw [if_neg q]; exact .inr rfl) (fun i k hi hk h => hl_b hi hk h) 0 n (by omega)
    rw [Nat.zero_add] at hr
    have hr : Rch (sqOf (ptE (HL n ov) ((0 : Nat) : Int) 0) n (decide (0 = (HL n ov).nc))) (0, zV) (fm n, if n = 0 then zV else s7) := hr
    rw [if_neg (by omega)] at hr
    have hg : fm n &&& maskN (fun i => (ptE (HL n ov) ((0 : Nat) : Int) 0 i).d) n = maskN (fun i => (ptE (HL n ov) ((0 : Nat) : Int) 0 i).d) n := (mask_sub _ _ _).2 fun j hj _ => by rw [fm_bit, decide_eq_true_iff]; exact hj
    exact ⟨fm n, hr, ⟨_, .refl _, hg⟩, by show decide _ = true; rw [decide_eq_true_iff]; exact hg⟩
theorem hl_fs1 (n : Nat) (ov : Bool) (v : List Int) : FS (HL n ov) ((1 : Nat) : Int) 1 v ↔ v = zV := by
  have key : ∀ l w, (lget (aftL (ptE (HL n ov) ((1 : Nat) : Int) 0) (lenE (HL n ov) ((1 : Nat) : Int) 0) (decide (0 = (HL n ov).nc)) l) w).isSome = true ↔ _ := fun l w => aft_law _ _ _ (by rw [hl_l1]; decide) l w
  show (∃ l, l = zV ∧ _) ↔ _
  constructor
  · rintro ⟨l, rfl, h⟩
    rw [key, hl_l1] at h
    obtain ⟨A, g1, _, _⟩ := h
    cases g1 with
    | refl => rfl
    | step i hi => exact absurd hi (Nat.not_lt_zero _)
  · rintro rfl
    refine ⟨zV, rfl, ?_⟩
    rw [key, hl_l1]
    have hg : (0 : Nat) &&& maskN (fun i => (ptE (HL n ov) ((1 : Nat) : Int) 0 i).d) 0 = maskN (fun i => (ptE (HL n ov) ((1 : Nat) : Int) 0 i).d) 0 := (mask_sub _ _ _).2 fun j hj => absurd hj (Nat.not_lt_zero _)
    exact ⟨0, .refl _, ⟨_, .refl _, hg⟩, by show decide _ = true; exact decide_eq_true hg⟩
theorem hl_v {n : Nat} (ov : Bool) : VHi (HL n ov) := vh_of (show (1 : Int) ≤ 1 by decide) (show (1 : Int) ≤ 8 by decide) (show (1 : Int) ≤ 2 by decide) (show (2 : Int) ≤ 4096 by decide) (show (2 : Int) % 1 = 0 by decide) (fun i hi => absurd hi (Nat.not_lt_zero _)) (fun i hi => absurd hi (Nat.not_lt_zero _)) fun i _ => by
  cases ov with
  | true => simp [VOp, HL, ep, cntB]
  | false => simp [VOp, HL, ep, cntB]; omega
theorem hl_fin0 {n : Nat} (ov : Bool) (h1 : 1 ≤ n) (hn : n ≤ 12) : FinS (HL n ov) ((0 : Nat) : Int) [s7] := ⟨List.pairwise_singleton _ _, fun v => by rw [List.mem_singleton]; exact (hl_fs0 ov h1 hn v).symm⟩
theorem hl_fin1 (n : Nat) (ov : Bool) : FinS (HL n ov) ((1 : Nat) : Int) [zV] := ⟨List.pairwise_singleton _ _, fun v => by rw [List.mem_singleton]; exact (hl_fs1 n ov v).symm⟩
theorem hl_nU (n : Nat) (ov : Bool) : nU (HL n ov) = 2 := rfl
theorem hl_some {n : Nat} (ov : Bool) (h1 : 1 ≤ n) (hn : n ≤ 12) : ∀ u, u < nU (HL n ov) → SomeF (HL n ov) u := fun u hu => by
  rw [hl_nU] at hu
  rcases u with _ | _ | u
  · exact ⟨s7, (hl_fs0 ov h1 hn s7).2 rfl⟩
  · exact ⟨zV, (hl_fs1 n ov zV).2 rfl⟩
  · omega
end Sx
