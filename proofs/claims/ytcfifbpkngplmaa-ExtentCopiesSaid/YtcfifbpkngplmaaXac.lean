/- Plain laws of sorted lists, counts, freed units. Conditions: as each theorem says. -/
import Derived.Test.YtcfifbpkngplmaaXab
set_option linter.unusedSimpArgs false
set_option linter.unusedVariables false
namespace Sx
open Go Go.Proofs
set_option maxRecDepth 100000
set_option pp.deepTerms true
set_option pp.maxSteps 10000000
theorem kF_lt {l : List Int} {i : Nat} (h : i < l.length) : kF l i = l[i] := by simp [kF, h]
theorem kF_mem {l : List Int} {i : Nat} (h : i < l.length) : kF l i ∈ l := by rw [kF_lt h]; exact List.getElem_mem h
theorem mem_kF {l : List Int} {a : Int} (h : a ∈ l) : ∃ i, i < l.length ∧ kF l i = a := by
  obtain ⟨i, hi, e⟩ := List.getElem_of_mem h
  exact ⟨i, hi, by rw [kF_lt hi]; exact e⟩
theorem kF_sorted {l : List Int} (h : l.Pairwise (· < ·)) {i j : Nat} (hij : i < j) (hj : j < l.length) : kF l i < kF l j := by
  rw [kF_lt (by omega), kF_lt hj]
  exact List.pairwise_iff_getElem.1 h i j (by omega) hj hij
theorem kF_inj {l : List Int} (h : l.Pairwise (· < ·)) {i j : Nat} (hi : i < l.length) (hj : j < l.length) (e : kF l i = kF l j) : i = j := by
  rcases Nat.lt_trichotomy i j with q | q | q
  · have := kF_sorted h q hj; omega
  · exact q
  · have := kF_sorted h q hi; omega
theorem split_at (u : Int) : ∀ l : List Int, l.Pairwise (· < ·) → (∀ j, j < l.countP (· < u) → kF l j < u) ∧ (∀ j, l.countP (· < u) ≤ j → j < l.length → u ≤ kF l j) := by
  intro l
  induction l with
  | nil => intro _; exact ⟨fun j hj => by simp at hj, fun j _ hj => by simp at hj⟩
  | cons y l ih =>
    intro h
    rw [List.pairwise_cons] at h
    obtain ⟨g1, g2⟩ := ih h.2
    by_cases hy : y < u
    · have e : (y :: l).countP (· < u) = l.countP (· < u) + 1 := by simp [List.countP_cons, hy]
      rw [e]
      refine ⟨fun j hj => ?_, fun j hj hl => ?_⟩
      · cases j with
        | zero => exact hy
        | succ j => exact g1 j (by omega)
      · cases j with
        | zero => omega
        | succ j => exact g2 j (by omega) (by simpa using hl)
    · have e : (y :: l).countP (· < u) = 0 := by
        rw [List.countP_eq_zero]
        intro x hx
        simp only [decide_eq_true_eq]
        rcases List.mem_cons.1 hx with rfl | hx
        · exact hy
        · have := h.1 x hx; omega
      rw [e]
      refine ⟨fun j hj => by omega, fun j _ hl => ?_⟩
      cases j with
      | zero => show u ≤ y; omega
      | succ j =>
        have hl : j < l.length := by simpa using hl
        have := h.1 _ (kF_mem hl)
        show u ≤ kF l j
        omega
theorem countP_le' (u : Int) (l : List Int) : l.countP (· < u) ≤ l.length := List.countP_le_length
theorem mem_insAt (L : List Int) (i : Nat) (u x : Int) : x ∈ insAt L i u ↔ x = u ∨ x ∈ L := by
  unfold insAt
  rw [List.mem_append, List.mem_cons]
  have := List.take_append_drop i L
  constructor
  · rintro (h | h | h)
    · exact .inr (List.mem_of_mem_take h)
    · exact .inl h
    · exact .inr (List.mem_of_mem_drop h)
  · rintro (h | h)
    · exact .inr (.inl h)
    · rw [← this] at h
      rcases List.mem_append.1 h with h | h
      · exact .inl h
      · exact .inr (.inr h)
theorem mem_insF (u x : Int) (F : List Int) : x ∈ insF u F ↔ x = u ∨ x ∈ F := mem_insAt _ _ _ _
theorem kF_insAt (L : List Int) (i : Nat) (hi : i ≤ L.length) (u : Int) (j : Nat) : kF (insAt L i u) j = if j < i then kF L j else if j = i then u else kF L (j - 1) := insAt_get L i hi u j
theorem insF_lt (u : Int) (F : List Int) (h : F.Pairwise (· < ·)) (hu : u ∉ F) : (insF u F).Pairwise (· < ·) := by
  obtain ⟨g1, g2⟩ := split_at u F h
  have hc := countP_le' u F
  have hl := insF_len u F
  rw [List.pairwise_iff_getElem]
  intro i j hi hj hij
  rw [← kF_lt hi, ← kF_lt hj]
  unfold insF
  rw [kF_insAt _ _ hc, kF_insAt _ _ hc]
  have hne : ∀ j, j < F.length → kF F j ≠ u := fun j hj e => hu (e ▸ kF_mem hj)
  by_cases h1 : i < F.countP (· < u)
  · rw [if_pos h1]
    by_cases h2 : j < F.countP (· < u)
    · rw [if_pos h2]; exact kF_sorted h hij (by omega)
    · rw [if_neg h2]
      by_cases h3 : j = F.countP (· < u)
      · rw [if_pos h3]; exact g1 i h1
      · rw [if_neg h3]; exact kF_sorted h (by omega) (by omega)
  · rw [if_neg h1]
    by_cases h2 : i = F.countP (· < u)
    · rw [if_pos h2, if_neg (show ¬ j < F.countP (· < u) by omega), if_neg (show ¬ j = F.countP (· < u) by omega)]
      have := g2 (j - 1) (by omega) (by omega)
      have := hne (j - 1) (by omega)
      omega
    · rw [if_neg h2, if_neg (show ¬ j < F.countP (· < u) by omega), if_neg (show ¬ j = F.countP (· < u) by omega)]; exact kF_sorted h (by omega) (by omega)
theorem lt_le {l : List Int} (h : l.Pairwise (· < ·)) : l.Pairwise (· ≤ ·) := h.imp fun {a b} h => by omega
theorem mem_dF (x : Int) : ∀ (L F : List Int), x ∈ dF F L ↔ x ∈ F ∨ x ∈ L := by
  intro L
  induction L with
  | nil => intro F; simp [dF]
  | cons u L ih =>
    intro F
    show x ∈ dF (insF u F) L ↔ _
    rw [ih, mem_insF, List.mem_cons]
    constructor
    · rintro ((h | h) | h)
      · exact .inr (.inl h)
      · exact .inl h
      · exact .inr (.inr h)
    · rintro (h | h | h)
      · exact .inl (.inr h)
      · exact .inl (.inl h)
      · exact .inr h
theorem dF_lt : ∀ (L F : List Int), F.Pairwise (· < ·) → L.Nodup → (∀ x ∈ L, x ∉ F) → (dF F L).Pairwise (· < ·) := by
  intro L
  induction L with
  | nil => intro F h _ _; exact h
  | cons u L ih =>
    intro F h hn hd
    rw [List.nodup_cons] at hn
    refine ih (insF u F) (insF_lt u F h (hd u List.mem_cons_self)) hn.2 fun x hx => ?_
    rw [mem_insF]
    rintro (rfl | q)
    · exact hn.1 hx
    · exact hd x (List.mem_cons_of_mem _ hx) q
theorem mem_dL {f : Nat → Int} {d : Nat → Bool} {n : Nat} {x : Int} : x ∈ dL f d n ↔ ∃ q, q < n ∧ d q = true ∧ f q = x + 1 := by
  unfold dL
  rw [List.mem_map]
  constructor
  · rintro ⟨q, hq, e⟩
    rw [List.mem_filter, List.mem_range] at hq
    exact ⟨q, hq.1, hq.2, by omega⟩
  · rintro ⟨q, h1, h2, h3⟩
    exact ⟨q, List.mem_filter.2 ⟨List.mem_range.2 h1, h2⟩, by omega⟩
theorem dL_nodup {f : Nat → Int} {d : Nat → Bool} {n : Nat} (h : ∀ q q', q < n → q' < n → d q = true → d q' = true → f q = f q' → q = q') : (dL f d n).Nodup := by
  induction n with
  | zero => exact List.nodup_nil
  | succ n ih =>
    have ih := ih (fun q q' h1 h2 => h q q' (by omega) (by omega))
    cases hd : d n with
    | false => rw [dL_no f d n hd]; exact ih
    | true =>
      rw [dL_yes f d n hd, List.nodup_append]
      refine ⟨ih, by simp, fun x hx y hy => ?_⟩
      have hy : y = f n - 1 := by simpa using hy
      obtain ⟨q, h1, h2, h3⟩ := mem_dL.1 hx
      intro e
      have := h q n (by omega) (by omega) h2 hd (by omega)
      omega
theorem cntU_upd (f : Nat → Int) (q : Nat) (x : Int) (hx : 0 < x) (h0 : f q = 0) : ∀ n, cntU (upU f q x) n = cntU f n + if q < n then 1 else 0 := by
  intro n
  induction n with
  | zero => simp [cntU]
  | succ n ih =>
    have e1 : cntU (upU f q x) (n + 1) = cntU (upU f q x) n + if 0 < upU f q x n then 1 else 0 := rfl
    have e2 : cntU f (n + 1) = cntU f n + if 0 < f n then 1 else 0 := rfl
    rw [e1, e2, ih]
    rcases Nat.lt_trichotomy n q with h | h | h
    · have : upU f q x n = f n := by unfold upU; rw [if_neg (by omega)]
      rw [this, if_neg (show ¬ q < n by omega), if_neg (show ¬ q < n + 1 by omega)]; omega
    · subst h
      have : upU f n x n = x := by simp [upU]
      rw [this, if_pos hx, h0, if_neg (by omega), if_neg (by omega), if_pos (by omega)]
    · have : upU f q x n = f n := by unfold upU; rw [if_neg (by omega)]
      rw [this, if_pos (show q < n by omega), if_pos (show q < n + 1 by omega)]; omega
theorem cntU_congr {f g : Nat → Int} : ∀ {n : Nat}, (∀ q, q < n → f q = g q) → cntU f n = cntU g n
  | 0, _ => rfl
  | n + 1, h => by
    show cntU f n + _ = cntU g n + _
    rw [cntU_congr (fun q hq => h q (by omega)), h n (by omega)]
theorem cntU_drop (f : Nat → Int) (d : Nat → Bool) (hd : ∀ q, d q = true → 0 < f q) : ∀ n, cntU (dU f d n) n + (dL f d n).length = cntU f n := by
  have key : ∀ n m, n ≤ m → cntU (dU f d m) n + (dL f d n).length = cntU f n := by
    intro n
    induction n with
    | zero => intro m _; simp [cntU, dL]
    | succ n ih =>
      intro m hm
      have e1 : cntU (dU f d m) (n + 1) = cntU (dU f d m) n + if 0 < dU f d m n then 1 else 0 := rfl
      have e2 : cntU f (n + 1) = cntU f n + if 0 < f n then 1 else 0 := rfl
      have := ih m (by omega)
      rw [e1, e2, ← this]
      cases h : d n with
      | true =>
        have h0 := hd n h
        rw [dL_yes f d n h, List.length_append, List.length_singleton, if_pos h0, show dU f d m n = 0 from by unfold dU; rw [if_pos ⟨by omega, h⟩], if_neg (by omega)]
        omega
      | false =>
        rw [dL_no f d n h, show dU f d m n = f n from by unfold dU; rw [if_neg (fun q => by rw [h] at q; exact absurd q.2 (by decide))]]
        omega
  exact fun n => key n n (Nat.le_refl _)
end Sx
