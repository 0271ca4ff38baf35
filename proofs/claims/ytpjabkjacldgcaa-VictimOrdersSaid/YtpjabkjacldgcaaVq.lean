/- Rotations of a part of a row, and the merge of two sorted parts by rotations. Conditions: as each theorem says. -/
import Derived.Test.YtpjabkjacldgcaaVp
namespace Sx
/-- [s, m) and [m, e) change places. -/
def rotI (s m e : Nat) (i : Nat) : Nat := if s ≤ i ∧ i < s + (e - m) then i + (m - s) else if s + (e - m) ≤ i ∧ i < e then i - (e - m) else i
def rotF (d : Nat → Rk) (s m e : Nat) : Nat → Rk := fun i => d (rotI s m e i)
theorem rotI_inv (s m e : Nat) (h1 : s ≤ m) (h2 : m ≤ e) (i : Nat) : rotI s m e (rotI s (s + (e - m)) e i) = i := by
  unfold rotI
  repeat' split
  all_goals omega
theorem PmS.rot {a b s m e : Nat} (d : Nat → Rk) (h0 : a ≤ s) (h1 : s ≤ m) (h2 : m ≤ e) (h3 : e ≤ b) : PmS a b d (rotF d s m e) := by
  refine ⟨rotI s m e, rotI s (s + (e - m)) e, rotI_inv s m e h1 h2, fun i => ?_, fun i hi => ?_, fun _ => rfl⟩
  · have := rotI_inv s (s + (e - m)) e (by omega) (by omega) i
    rw [show s + (e - (s + (e - m))) = m by omega] at this
    exact this
  · unfold rotI
    rw [if_neg (by omega), if_neg (by omega)]
theorem rotF_id1 (d : Nat → Rk) (s m : Nat) : rotF d s m m = d := by
  funext i; unfold rotF rotI; congr 1
  repeat' split
  all_goals omega
theorem rotF_id2 (d : Nat → Rk) (m e : Nat) : rotF d m m e = d := by
  funext i; unfold rotF rotI; congr 1
  repeat' split
  all_goals omega
theorem rot_lo {d : Nat → Rk} {s m e i : Nat} (h : i < s) : rotF d s m e i = d i := by
  unfold rotF rotI; rw [if_neg (by omega), if_neg (by omega)]
theorem rot_a {d : Nat → Rk} {s m e i : Nat} (h1 : s ≤ i) (h2 : i < s + (e - m)) : rotF d s m e i = d (i + (m - s)) := by
  unfold rotF rotI; rw [if_pos ⟨h1, h2⟩]
theorem rot_b {d : Nat → Rk} {s m e i : Nat} (h1 : s + (e - m) ≤ i) (h2 : i < e) : rotF d s m e i = d (i - (e - m)) := by
  unfold rotF rotI; rw [if_neg (by omega), if_pos ⟨h1, h2⟩]
theorem rot_hi {d : Nat → Rk} {s m e i : Nat} (h0 : s ≤ m) (h1 : m ≤ e) (h : e ≤ i) : rotF d s m e i = d i := by
  unfold rotF rotI; rw [if_neg (by omega), if_neg (by omega)]
/-- [a, a + n) and [b, b + n) change places. -/
def swr (d : Nat → Rk) (a b n : Nat) : Nat → Rk := fun i => if a ≤ i ∧ i < a + n then d (i - a + b) else if b ≤ i ∧ i < b + n then d (i - b + a) else d i
theorem swr_zero (d : Nat → Rk) (a b : Nat) : swr d a b 0 = d := by
  funext i; unfold swr; rw [if_neg (by omega), if_neg (by omega)]
theorem swr_succ (d : Nat → Rk) (a b n i : Nat) (h : a + n ≤ b) (hi : i < n) : swp (swr d a b i) (a + i) (b + i) = swr d a b (i + 1) := by
  funext k
  unfold swp swr
  repeat' split
  all_goals first | (exfalso; omega) | (congr 1 <;> omega)
theorem rot_gt (e : Nat → Rk) (m i j : Nat) (h1 : j < i) (h2 : i ≤ m) (h3 : 0 < j) : rotF (swr e (m - i) m j) (m - (i - j)) m (m + j) = rotF e (m - i) m (m + j) := by
  funext k
  unfold rotF rotI swr
  repeat' split
  all_goals first | (exfalso; omega) | (congr 1 <;> omega)
theorem rot_lt (e : Nat → Rk) (m i j : Nat) (h1 : i < j) (h2 : i ≤ m) (h3 : 0 < i) : rotF (swr e (m - i) (m + j - i) i) (m - i) m (m + (j - i)) = rotF e (m - i) m (m + j) := by
  funext k
  unfold rotF rotI swr
  repeat' split
  all_goals first | (exfalso; omega) | (congr 1 <;> omega)
theorem rot_eq (e : Nat → Rk) (m i : Nat) (h2 : i ≤ m) : swr e (m - i) m i = rotF e (m - i) m (m + i) := by
  funext k
  unfold rotF rotI swr
  repeat' split
  all_goals first | (exfalso; omega) | (congr 1 <;> omega)
theorem rot_up (d : Nat → Rk) (a k : Nat) (h : a ≤ k) : swp (rotF d a (a + 1) (k + 1)) k (k + 1) = rotF d a (a + 1) (k + 2) := by
  funext i
  unfold swp rotF rotI
  repeat' split
  all_goals first | (exfalso; omega) | (congr 1 <;> omega)
theorem rot_down (d : Nat → Rk) (m k : Nat) (h : k ≤ m) (h0 : 0 < k) : swp (rotF d k m (m + 1)) k (k - 1) = rotF d (k - 1) m (m + 1) := by
  funext i
  unfold swp rotF rotI
  repeat' split
  all_goals first | (exfalso; omega) | (congr 1 <;> omega)
/-- Two sorted parts, side by side; what stands left came first. -/
structure Mrg (a m b : Nat) (d : Nat → Rk) : Prop where
  am : a ≤ m
  mb : m ≤ b
  l : SortedOn a m d
  r : SortedOn m b d
  at_ : ∀ i j, a ≤ i → i < m → m ≤ j → j < b → (d i).at_ < (d j).at_
  g : ∀ i, a ≤ i → i < b → good (d i)
theorem Mrg.le {a m b i j : Nat} {d : Nat → Rk} (h : Mrg a m b d) (hi : a ≤ i) (hij : i < j) (hj : j < m) : lt (d i) (d j) := h.l i j hi hij hj
/-- s and e cut the two parts so that what stands ahead of the cuts is less than what stands behind them. -/
structure Cut (a m b s e : Nat) (d : Nat → Rk) : Prop where
  s1 : a ≤ s
  s2 : s ≤ m
  e1 : m ≤ e
  e2 : e ≤ b
  lr : ∀ i j, a ≤ i → i < s → e ≤ j → j < b → lt (d i) (d j)
  rl : ∀ i j, m ≤ i → i < e → s ≤ j → j < m → lt (d i) (d j)
theorem Cut.left {a m b s e : Nat} {d : Nat → Rk} (h : Mrg a m b d) (c : Cut a m b s e d) : Mrg a s (s + (e - m)) (rotF d s m e) := by
  obtain ⟨c1, c2, c3, c4, c5, c6⟩ := c
  have va : ∀ i, s ≤ i → i < s + (e - m) → rotF d s m e i = d (i + (m - s)) := fun i => rot_a
  refine ⟨c1, by omega, fun i j h1 h2 h3 => ?_, fun i j h1 h2 h3 => ?_, fun i j h1 h2 h3 h4 => ?_, fun i h1 h2 => ?_⟩
  · rw [rot_lo (by omega), rot_lo (by omega)]; exact h.l i j h1 h2 (by omega)
  · rw [va i h1 (by omega), va j (by omega) h3]; exact h.r _ _ (by omega) (by omega) (by omega)
  · rw [rot_lo h2, va j h3 h4]; exact h.at_ _ _ h1 (by omega) (by omega) (by omega)
  · by_cases hi : i < s
    · rw [rot_lo hi]; exact h.g _ h1 (by omega)
    · rw [va i (by omega) h2]; exact h.g _ (by omega) (by omega)
theorem Cut.right {a m b s e : Nat} {d : Nat → Rk} (h : Mrg a m b d) (c : Cut a m b s e d) : Mrg (s + (e - m)) e b (rotF d s m e) := by
  obtain ⟨c1, c2, c3, c4, c5, c6⟩ := c
  have vb : ∀ i, s + (e - m) ≤ i → i < e → rotF d s m e i = d (i - (e - m)) := fun i => rot_b
  have vc : ∀ i, e ≤ i → rotF d s m e i = d i := fun i => rot_hi c2 c3
  refine ⟨by omega, c4, fun i j h1 h2 h3 => ?_, fun i j h1 h2 h3 => ?_, fun i j h1 h2 h3 h4 => ?_, fun i h1 h2 => ?_⟩
  · rw [vb i h1 (by omega), vb j (by omega) h3]; exact h.l _ _ (by omega) (by omega) (by omega)
  · rw [vc i h1, vc j (by omega)]; exact h.r _ _ (by omega) h2 h3
  · rw [vb i h1 h2, vc j h3]; exact h.at_ _ _ (by omega) (by omega) (by omega) h4
  · by_cases hi : i < e
    · rw [vb i h1 hi]; exact h.g _ (by omega) (by omega)
    · rw [vc i (by omega)]; exact h.g _ (by omega) h2
theorem Cut.cross {a m b s e : Nat} {d : Nat → Rk} (h : Mrg a m b d) (c : Cut a m b s e d) (i j : Nat) (h1 : a ≤ i) (h2 : i < s + (e - m)) (h3 : s + (e - m) ≤ j) (h4 : j < b) : lt (rotF d s m e i) (rotF d s m e j) := by
  obtain ⟨c1, c2, c3, c4, c5, c6⟩ := c
  have va : ∀ i, s ≤ i → i < s + (e - m) → rotF d s m e i = d (i + (m - s)) := fun i => rot_a
  have vb : ∀ i, s + (e - m) ≤ i → i < e → rotF d s m e i = d (i - (e - m)) := fun i => rot_b
  have vc : ∀ i, e ≤ i → rotF d s m e i = d i := fun i => rot_hi c2 c3
  by_cases hi : i < s
  · rw [rot_lo hi]
    by_cases hj : j < e
    · rw [vb j h3 hj]; exact h.l _ _ h1 (by omega) (by omega)
    · rw [vc j (by omega)]; exact c5 _ _ h1 hi (by omega) h4
  · rw [va i (by omega) h2]
    by_cases hj : j < e
    · rw [vb j h3 hj]; exact c6 _ _ (by omega) (by omega) (by omega) (by omega)
    · rw [vc j (by omega)]; exact h.r _ _ (by omega) (by omega) h4
/-- Both halves merged. -/
theorem Cut.done {a m b s e : Nat} {d d1 d2 : Nat → Rk} (h : Mrg a m b d) (c : Cut a m b s e d) (p1 : PmS a (s + (e - m)) (rotF d s m e) d1) (s1 : SortedOn a (s + (e - m)) d1)
    (p2 : PmS (s + (e - m)) b d1 d2) (s2 : SortedOn (s + (e - m)) b d2) : PmS a b d d2 ∧ SortedOn a b d2 := by
  have hc := c.cross h
  obtain ⟨c1, c2, c3, c4, c5, c6⟩ := c
  refine ⟨(PmS.rot d c1 c2 c3 c4).trans ((p1.mono (Nat.le_refl _) (by omega)).trans (p2.mono (by omega) (Nat.le_refl _))), fun i j h1 h2 h3 => ?_⟩
  by_cases hj : j < s + (e - m)
  · rw [p2.out (i := i) (by omega), p2.out (i := j) (by omega)]; exact s1 i j h1 h2 hj
  · by_cases hi : i < s + (e - m)
    · rw [p2.out (i := i) (by omega)]
      obtain ⟨i', q1, q2, q3⟩ := p1.at (i := i) ⟨h1, hi⟩
      obtain ⟨j', r1, r2, r3⟩ := p2.at (i := j) ⟨by omega, h3⟩
      rw [q3, r3, p1.out (i := j') (by omega)]
      exact hc i' j' q1 q2 r1 r2
    · exact s2 i j (by omega) h2 h3
/-- At a part that is bare the other one is sorted. -/
theorem Mrg.bare {a m b : Nat} {d : Nat → Rk} (h : Mrg a m b d) (hb : ¬ (a < m ∧ m < b)) : SortedOn a b d := by
  intro i j h1 h2 h3
  by_cases e : m = b
  · subst e; exact h.l i j h1 h2 h3
  · have : a = m := by have := h.am; have := h.mb; omega
    subst this; exact h.r i j h1 h2 h3
theorem Mrg.lo {a m b i j : Nat} {d : Nat → Rk} (h : Mrg a m b d) (hi : a ≤ i) (hi2 : i < m) (hj : m ≤ j) (hj2 : j < b) (c : ¬ cmpC (d j).c (d i).c < 0) : lt (d i) (d j) := lt_of_not c (h.at_ i j hi hi2 hj hj2)
/-- The search for the cut: x is the least of [s, r] where the condition fails, as far as it is known. -/
structure Srch (a m b p : Nat) (d : Nat → Rk) (s0 r0 : Nat) (x y : Nat) : Prop where
  x0 : s0 ≤ x
  xy : x ≤ y
  y0 : y ≤ r0
  lo : x = s0 ∨ (s0 < x ∧ lt (d (x - 1)) (d (p - (x - 1))))
  hi : y = r0 ∨ (y < r0 ∧ lt (d (p - y)) (d y))
/-- What the search has found is a cut. -/
theorem Srch.cut {a m b s0 r0 x : Nat} {d : Nat → Rk} (h : Mrg a m b d) (ha : a < m) (hb : m < b) (hs : (m > (a + b) / 2 ∧ s0 = (a + b) / 2 + m - b ∧ r0 = (a + b) / 2) ∨ (m ≤ (a + b) / 2 ∧ s0 = a ∧ r0 = m)) (q : Srch a m b ((a + b) / 2 + m - 1) d s0 r0 x x) :
    Cut a m b x ((a + b) / 2 + m - x) d := by
  obtain ⟨q1, q2, q3, q4, q5⟩ := q
  refine ⟨by omega, by omega, by omega, by omega, fun i j h1 h2 h3 h4 => ?_, fun i j h1 h2 h3 h4 => ?_⟩
  · rcases q4 with q4 | ⟨q4, q6⟩
    · omega
    · rw [show (a + b) / 2 + m - 1 - (x - 1) = (a + b) / 2 + m - x by omega] at q6
      have gi := h.g i h1 (by omega)
      have gx := h.g (x - 1) (by omega) (by omega)
      have ge := h.g ((a + b) / 2 + m - x) (by omega) (by omega)
      have gj := h.g j (by omega) h4
      have t1 : lt (d i) (d ((a + b) / 2 + m - x)) := by
        by_cases e : i = x - 1
        · rw [e]; exact q6
        · exact lt_trans gi gx ge (h.l i (x - 1) h1 (by omega) (by omega)) q6
      by_cases e : j = (a + b) / 2 + m - x
      · rw [e]; exact t1
      · exact lt_trans gi ge gj t1 (h.r _ _ (by omega) (by omega) h4)
  · rcases q5 with q5 | ⟨q5, q6⟩
    · omega
    · have gi := h.g i (by omega) (by omega)
      have gx := h.g x (by omega) (by omega)
      have ge := h.g ((a + b) / 2 + m - 1 - x) (by omega) (by omega)
      have gj := h.g j (by omega) (by omega)
      have t1 : lt (d i) (d x) := by
        by_cases e : i = (a + b) / 2 + m - 1 - x
        · rw [e]; exact q6
        · exact lt_trans gi ge gx (h.r _ _ h1 (by omega) (by omega)) q6
      by_cases e : j = x
      · rw [e]; exact t1
      · exact lt_trans gi gx gj t1 (h.l _ _ (by omega) (by omega) h4)
end Sx
