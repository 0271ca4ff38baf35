/- What the reference's lists and the arbiter's maps have in common. No program in sight. Conditions: as each theorem says. -/
import Derived.Test.YtkoeikjcnancdaaAj
set_option linter.unusedSimpArgs false
set_option linter.unusedVariables false
namespace Sx
open Go Go.Proofs
/-- The list Q holds the arbiter's queues. -/
structure QOk (s : ASt) (Q : Ld) : Prop where
  lt : (Q.map (·.1)).Pairwise (· < ·)
  h : ∀ a, s.h a = hasQ Q a
  v : ∀ p ∈ Q, s.v p.1 = p.2
  c : ∀ p ∈ Q, C4 p.2
  r : ∀ p ∈ Q, 0 ≤ p.1 ∧ p.1 ≤ 65535
theorem hasQ_iff {Q : Ld} {a : Int} : hasQ Q a = true ↔ ∃ p ∈ Q, p.1 = a := by
  unfold hasQ
  rw [List.any_eq_true]
  constructor
  · rintro ⟨p, h1, h2⟩; exact ⟨p, h1, by simpa using h2⟩
  · rintro ⟨p, h1, h2⟩; exact ⟨p, h1, by simpa using h2⟩
theorem QOk.mono {s : ASt} {Q : Ld} (h : QOk s Q) {i j : Nat} (hij : i < j) (hj : j < Q.length) : (Q[i]'(Nat.lt_trans hij hj)).1 < Q[j].1 := by
  have := List.pairwise_iff_getElem.1 h.lt i j (by simpa using Nat.lt_trans hij hj) (by simpa using hj) hij
  simpa using this
theorem QOk.inj {s : ASt} {Q : Ld} (h : QOk s Q) {i j : Nat} (hi : i < Q.length) (hj : j < Q.length) (e : Q[i].1 = Q[j].1) : i = j := by
  rcases Nat.lt_trichotomy i j with q | q | q
  · have := h.mono q hj; omega
  · exact q
  · have := h.mono q hi; omega
theorem QOk.cls {s : ASt} {Q : Ld} (h : QOk s Q) {p : Int × Int} (hp : p ∈ Q) : s.cls p.1 = clsQ s p := by
  have : s.h p.1 = true := by rw [h.h]; exact hasQ_iff.2 ⟨p, hp, rfl⟩
  simp [ASt.cls, clsQ, this, h.v p hp]
/-- Two arbiters with the same queues. -/
theorem QOk.same {s t : ASt} {Q : Ld} (h : QOk s Q) (e1 : t.h = s.h) (e2 : t.v = s.v) : QOk t Q := ⟨h.lt, by rw [e1]; exact h.h, by rw [e2]; exact h.v, h.c, h.r⟩
/-- The waiting queues. -/
def lQ (Q : Ld) (ld : Ld) : List Int := (Q.filter fun p => decide (0 < wv ld p.1)).map (·.1)
theorem lQ_keys {s : ASt} {Q ld : Ld} (h : QOk s Q) (hok : LdOk s ld) : KeysOf (fun a => hasQ ld a && !decide (wv ld a = 0)) (lQ Q ld) := by
  refine ⟨?_, fun a => ?_⟩
  · unfold lQ
    have := h.lt
    rw [List.pairwise_map] at this ⊢
    exact this.filter _
  · unfold lQ
    rw [List.mem_map]
    constructor
    · rintro ⟨p, hp, rfl⟩
      obtain ⟨h1, h2⟩ := List.mem_filter.1 hp
      have h2 : 0 < wv ld p.1 := by simpa using h2
      have hq : hasQ ld p.1 = true := by
        cases hb : hasQ ld p.1 with
        | true => rfl
        | false => rw [wv, find_none hb] at h2; simp at h2
      simp [hq]; omega
    · intro ha
      simp only [Bool.and_eq_true, Bool.not_eq_true', decide_eq_false_iff_not] at ha
      obtain ⟨p, hp, rfl⟩ := hasQ_iff.1 ha.1
      obtain ⟨i, hi, rfl⟩ := List.mem_iff_getElem.1 hp
      have h1 := (hok i hi).1
      rw [h.h] at h1
      obtain ⟨q, hq, e⟩ := hasQ_iff.1 h1
      have := wv_nonneg hok ld[i].1
      exact ⟨q, List.mem_filter.2 ⟨hq, by simp [e]; omega⟩, e⟩
/-- What the reference's 'waits' says. -/
theorem waits_eq {s : ASt} {Q ld : Ld} (h : QOk s Q) {N : Nat → Int} (hN : ∀ i (hi : i < Q.length), N i = wv ld Q[i].1) (c : Int) : waitsQ s Q N c Q.length = waits s (lQ Q ld) c := by
  rw [Bool.eq_iff_iff]
  unfold waitsQ waits lQ
  rw [List.any_eq_true, List.any_eq_true]
  constructor
  · rintro ⟨i, hi, hq⟩
    have hi : i < Q.length := List.mem_range.1 hi
    simp only [Bool.and_eq_true, decide_eq_true_eq] at hq
    have eg : Q.getD i (0, 0) = Q[i] := by simp [hi]
    rw [hN i hi, eg] at hq
    refine ⟨Q[i].1, List.mem_map.2 ⟨Q[i], List.mem_filter.2 ⟨List.getElem_mem hi, by simpa using hq.1⟩, rfl⟩, ?_⟩
    rw [h.cls (List.getElem_mem hi)]; simpa using hq.2
  · rintro ⟨q, hq, hc⟩
    obtain ⟨p, hp, rfl⟩ := List.mem_map.1 hq
    obtain ⟨h1, h2⟩ := List.mem_filter.1 hp
    obtain ⟨i, hi, rfl⟩ := List.mem_iff_getElem.1 h1
    refine ⟨i, List.mem_range.2 hi, ?_⟩
    have eg : Q.getD i (0, 0) = Q[i] := by simp [hi]
    rw [hN i hi, eg]
    rw [h.cls h1] at hc
    simp only [Bool.and_eq_true]
    exact ⟨h2, hc⟩
/-- The reference's choice among the first i queues. -/
def candL (s : ASt) (Q ld : Ld) (c : Int) (i : Nat) : List Int := ((Q.take i).filter fun p => decide (0 < wv ld p.1) && decide (clsQ s p = c)).map (·.1)
theorem cand_yes {s : ASt} {Q ld : Ld} {c : Int} {i : Nat} (hi : i < Q.length) (h : 0 < wv ld Q[i].1) (hc : clsQ s Q[i] = c) : candL s Q ld c (i + 1) = candL s Q ld c i ++ [Q[i].1] := by
  unfold candL; rw [List.take_succ_eq_append_getElem hi]
  simp only [List.filter_append, List.map_append, List.filter_cons, List.filter_nil]
  rw [if_pos (by simp [h, hc])]; rfl
theorem cand_no {s : ASt} {Q ld : Ld} {c : Int} {i : Nat} (hi : i < Q.length) (h : ¬ (0 < wv ld Q[i].1 ∧ clsQ s Q[i] = c)) : candL s Q ld c (i + 1) = candL s Q ld c i := by
  unfold candL; rw [List.take_succ_eq_append_getElem hi]
  simp only [List.filter_append, List.map_append, List.filter_cons, List.filter_nil]
  rw [if_neg (by simpa using h)]; simp
theorem cand_all {s : ASt} {Q ld : Ld} (h : QOk s Q) (c : Int) : candL s Q ld c Q.length = keepL s c (lQ Q ld) := by
  unfold candL keepL lQ
  rw [List.take_length, List.filter_map, List.filter_filter]
  congr 1
  refine List.filter_congr fun p hp => ?_
  simp only [Function.comp]
  rw [h.cls hp, Bool.and_comm]
theorem next_snoc (s : ASt) (c : Int) (L : List Int) (x : Int) :
    nextQ s c (L ++ [x]) = if L = [] then x else if nextQ s c L ≤ s.last c ∧ s.last c < x then x else nextQ s c L := by
  unfold nextQ findR
  rw [List.find?_append]
  cases hf : L.find? (fun q => decide (s.last c < q)) with
  | some y =>
    have hy : s.last c < y := by simpa using List.find?_some hf
    have hne : L ≠ [] := by rintro rfl; cases hf
    simp only [Option.some_or, if_true, if_neg hne]
    rw [if_neg (by omega)]
  | none =>
    have hall : ∀ y ∈ L, ¬ s.last c < y := by simpa using List.find?_eq_none.1 hf
    cases L with
    | nil => by_cases hx : s.last c < x <;> simp [hx]
    | cons y L =>
      have := hall y (by simp)
      by_cases hx : s.last c < x
      · simp [hx]; omega
      · simp [hx]
end Sx
