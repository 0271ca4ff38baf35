/- The order of ranked candidates is a strict total order on those that are valid and useful. Conditions: as each theorem says. -/
import Derived.Test.YtpjabkjacldgcaaVd
namespace Sx
structure Rk where
  c : Cd
  at_ : Int
def good (x : Rk) : Prop := x.c.ok = true ∧ x.c.use = true
/-- The order. -/
def lt (x y : Rk) : Prop := cmpC x.c y.c < 0 ∨ (cmpC x.c y.c = 0 ∧ x.at_ < y.at_)
abbrev Cd.N (c : Cd) : Int := scN c.v c.p c.a
abbrev Cd.D (c : Cd) : Int := scD c.v
def SLt (x y : Cd) : Prop := (x.D = 0 ∧ y.D ≠ 0) ∨ (x.D ≠ 0 ∧ y.D ≠ 0 ∧ y.N * x.D < x.N * y.D)
def SEq (x y : Cd) : Prop := (x.D = 0 ∧ y.D = 0) ∨ (x.D ≠ 0 ∧ y.D ≠ 0 ∧ y.N * x.D = x.N * y.D)
theorem cmpC_neg (x y : Cd) : cmpC x y < 0 ↔ SLt x y ∨ (SEq x y ∧ (y.a < x.a ∨ (x.a = y.a ∧ x.b < y.b))) := by
  unfold cmpC SLt SEq
  by_cases a1 : scD x.v = 0 <;> by_cases a2 : scD y.v = 0
  · simp only [a1, a2, Cd.D, Cd.N, orI]
    simp
    split
    · rename_i h; rw [cmpI_zero] at h; rw [cmpI_neg]; omega
    · rename_i h; rw [cmpI_zero] at h; rw [cmpI_neg]; omega
  · simp [a1, a2]
  · simp [a1, a2]
  · by_cases a3 : scN x.v x.p x.a * scD y.v = scN y.v y.p y.a * scD x.v
    · simp [a1, a2, a3, orI]
      split
      · rename_i h; rw [cmpI_zero] at h; rw [cmpI_neg]; omega
      · rename_i h; rw [cmpI_zero] at h; rw [cmpI_neg]; omega
    · have a4 : ¬ scN y.v y.p y.a * scD x.v = scN x.v x.p x.a * scD y.v := fun e => a3 e.symm
      simp [a1, a2, a3, a4]
      rw [cmpI_neg]
theorem cmpC_zero (x y : Cd) : cmpC x y = 0 ↔ SEq x y ∧ x.a = y.a ∧ x.b = y.b := by
  unfold cmpC SEq
  by_cases a1 : scD x.v = 0 <;> by_cases a2 : scD y.v = 0
  · simp only [a1, a2, Cd.D, Cd.N, orI]
    simp
    split
    · rename_i h; rw [cmpI_zero] at h; rw [cmpI_zero]; omega
    · rename_i h; rw [cmpI_zero] at h; rw [cmpI_zero]; omega
  · simp [a1, a2]
  · simp [a1, a2]
  · by_cases a3 : scN x.v x.p x.a * scD y.v = scN y.v y.p y.a * scD x.v
    · simp [a1, a2, a3, orI]
      split
      · rename_i h; rw [cmpI_zero] at h; rw [cmpI_zero]; omega
      · rename_i h; rw [cmpI_zero] at h; rw [cmpI_zero]; omega
    · have a4 : ¬ scN y.v y.p y.a * scD x.v = scN x.v x.p x.a * scD y.v := fun e => a3 e.symm
      simp [a1, a2, a3, a4]
      rw [cmpI_zero]; exact a4
theorem frac_le {n1 d1 n2 d2 n3 d3 : Int} (h1 : 0 < d1) (h2 : 0 < d2) (h3 : 0 < d3) (g : n2 * d1 ≤ n1 * d2) (k : n3 * d2 ≤ n2 * d3) : n3 * d1 ≤ n1 * d3 := by
  have e1 : n3 * d2 * d1 ≤ n2 * d3 * d1 := Int.mul_le_mul_of_nonneg_right k (by omega)
  have e2 : n2 * d1 * d3 ≤ n1 * d2 * d3 := Int.mul_le_mul_of_nonneg_right g (by omega)
  have e3 : n3 * d1 * d2 ≤ n1 * d3 * d2 := by
    calc n3 * d1 * d2 = n3 * d2 * d1 := by rw [Int.mul_right_comm]
      _ ≤ n2 * d3 * d1 := e1
      _ = n2 * d1 * d3 := by rw [Int.mul_right_comm]
      _ ≤ n1 * d2 * d3 := e2
      _ = n1 * d3 * d2 := by rw [Int.mul_right_comm]
  exact Int.le_of_mul_le_mul_right e3 h2
theorem frac_lt1 {n1 d1 n2 d2 n3 d3 : Int} (h1 : 0 < d1) (h2 : 0 < d2) (h3 : 0 < d3) (g : n2 * d1 < n1 * d2) (k : n3 * d2 ≤ n2 * d3) : n3 * d1 < n1 * d3 := by
  have e1 : n3 * d2 * d1 ≤ n2 * d3 * d1 := Int.mul_le_mul_of_nonneg_right k (by omega)
  have e2 : n2 * d1 * d3 < n1 * d2 * d3 := Int.mul_lt_mul_of_pos_right g h3
  have e3 : n3 * d1 * d2 < n1 * d3 * d2 := by
    calc n3 * d1 * d2 = n3 * d2 * d1 := by rw [Int.mul_right_comm]
      _ ≤ n2 * d3 * d1 := e1
      _ = n2 * d1 * d3 := by rw [Int.mul_right_comm]
      _ < n1 * d2 * d3 := e2
      _ = n1 * d3 * d2 := by rw [Int.mul_right_comm]
  exact Int.lt_of_mul_lt_mul_right e3 (by omega)
theorem frac_lt2 {n1 d1 n2 d2 n3 d3 : Int} (h1 : 0 < d1) (h2 : 0 < d2) (h3 : 0 < d3) (g : n2 * d1 ≤ n1 * d2) (k : n3 * d2 < n2 * d3) : n3 * d1 < n1 * d3 := by
  have e1 : n3 * d2 * d1 < n2 * d3 * d1 := Int.mul_lt_mul_of_pos_right k h1
  have e2 : n2 * d1 * d3 ≤ n1 * d2 * d3 := Int.mul_le_mul_of_nonneg_right g (by omega)
  have e3 : n3 * d1 * d2 < n1 * d3 * d2 := by
    calc n3 * d1 * d2 = n3 * d2 * d1 := by rw [Int.mul_right_comm]
      _ < n2 * d3 * d1 := e1
      _ = n2 * d1 * d3 := by rw [Int.mul_right_comm]
      _ ≤ n1 * d2 * d3 := e2
      _ = n1 * d3 * d2 := by rw [Int.mul_right_comm]
  exact Int.lt_of_mul_lt_mul_right e3 (by omega)
theorem s_trans {x y z : Cd} (hx : 0 ≤ x.D) (hy : 0 ≤ y.D) (hz : 0 ≤ z.D) (h : SLt x y ∨ SEq x y) (g : SLt y z ∨ SEq y z) : (SLt x z ∨ SEq x z) ∧ ((SLt x y ∨ SLt y z) → SLt x z) ∧ ((SEq x y ∧ SEq y z) → SEq x z) := by
  unfold SLt SEq at *
  by_cases a1 : x.D = 0 <;> by_cases a2 : y.D = 0 <;> by_cases a3 : z.D = 0 <;> simp only [a1, a2, a3, ne_eq, not_true_eq_false, not_false_eq_true, true_and, false_and, and_false, and_true, or_false, false_or, or_self, true_or, or_true, false_implies, implies_true, true_implies, forall_const] at h g ⊢
  have p1 : 0 < x.D := by omega
  have p2 : 0 < y.D := by omega
  have p3 : 0 < z.D := by omega
  have hle := @frac_le x.N x.D y.N y.D z.N z.D p1 p2 p3 (by omega) (by omega)
  refine ⟨by omega, ?_, ?_⟩
  · rintro (k | k)
    · exact frac_lt1 p1 p2 p3 k (by omega)
    · exact frac_lt2 p1 p2 p3 (by omega) k
  · rintro ⟨k1, k2⟩
    have h2 := @frac_le z.N z.D y.N y.D x.N x.D p3 p2 p1 (by omega) (by omega)
    omega
theorem good_D {x : Rk} (h : good x) : 0 ≤ x.c.D := (sc_bound x.c h.1).2.2.1
theorem lt_trans {x y z : Rk} (hx : good x) (hy : good y) (hz : good z) (h : lt x y) (g : lt y z) : lt x z := by
  unfold lt at *
  rw [cmpC_neg, cmpC_zero] at *
  have s1 : SLt x.c y.c ∨ SEq x.c y.c := by
    rcases h with (h | h) | h
    · exact .inl h
    · exact .inr h.1
    · exact .inr h.1.1
  have s2 : SLt y.c z.c ∨ SEq y.c z.c := by
    rcases g with (g | g) | g
    · exact .inl g
    · exact .inr g.1
    · exact .inr g.1.1
  obtain ⟨t1, t2, t3⟩ := s_trans (good_D hx) (good_D hy) (good_D hz) s1 s2
  rcases h with (h | ⟨h, h'⟩) | ⟨⟨h, h'⟩, h''⟩
  · exact .inl (.inl (t2 (.inl h)))
  · rcases g with (g | ⟨g, g'⟩) | ⟨⟨g, g'⟩, g''⟩
    · exact .inl (.inl (t2 (.inr g)))
    · exact .inl (.inr ⟨t3 ⟨h, g⟩, by omega⟩)
    · exact .inl (.inr ⟨t3 ⟨h, g⟩, by omega⟩)
  · rcases g with (g | ⟨g, g'⟩) | ⟨⟨g, g'⟩, g''⟩
    · exact .inl (.inl (t2 (.inr g)))
    · exact .inl (.inr ⟨t3 ⟨h, g⟩, by omega⟩)
    · exact .inr ⟨⟨t3 ⟨h, g⟩, by omega⟩, by omega⟩
theorem lt_of_not {x y : Rk} (h : ¬ cmpC y.c x.c < 0) (ha : x.at_ < y.at_) : lt x y := by
  rw [cmpC_anti] at h
  unfold lt
  omega
/-- The permutations of a part of a row. -/
def PmS (a b : Nat) (d d' : Nat → Rk) : Prop := ∃ τ τ' : Nat → Nat, (∀ i, τ (τ' i) = i) ∧ (∀ i, τ' (τ i) = i) ∧ (∀ i, ¬ (a ≤ i ∧ i < b) → τ i = i) ∧ ∀ i, d' i = d (τ i)
def swp (d : Nat → Rk) (i j : Nat) : Nat → Rk := fun k => if k = i then d j else if k = j then d i else d k
theorem PmS.refl (a b : Nat) (d : Nat → Rk) : PmS a b d d := ⟨id, id, fun _ => rfl, fun _ => rfl, fun _ _ => rfl, fun _ => rfl⟩
theorem PmS.trans {a b : Nat} {d e f : Nat → Rk} (h : PmS a b d e) (g : PmS a b e f) : PmS a b d f := by
  obtain ⟨t, t', h1, h2, h3, h4⟩ := h
  obtain ⟨s, s', g1, g2, g3, g4⟩ := g
  exact ⟨fun i => t (s i), fun i => s' (t' i), fun i => by simp [g1, h1], fun i => by simp [g2, h2], fun i hi => by simp [g3 i hi, h3 i hi], fun i => by rw [g4, h4]⟩
theorem PmS.mono {a b a' b' : Nat} {d e : Nat → Rk} (h : PmS a b d e) (h1 : a' ≤ a) (h2 : b ≤ b') : PmS a' b' d e := by
  obtain ⟨t, t', g1, g2, g3, g4⟩ := h
  exact ⟨t, t', g1, g2, fun i hi => g3 i (by omega), g4⟩
theorem PmS.swap {a b i j : Nat} (d : Nat → Rk) (hi : a ≤ i ∧ i < b) (hj : a ≤ j ∧ j < b) : PmS a b d (swp d i j) := by
  have inv : ∀ k, (fun k => if k = i then j else if k = j then i else k) ((fun k => if k = i then j else if k = j then i else k) k) = k := by
    intro k
    by_cases h1 : k = i
    · subst h1; by_cases h3 : j = k <;> simp [h3]
    · by_cases h2 : k = j
      · subst h2; simp [h1]
      · simp [h1, h2]
  refine ⟨fun k => if k = i then j else if k = j then i else k, fun k => if k = i then j else if k = j then i else k, inv, inv, ?_, ?_⟩
  · intro k hk
    have h1 : k ≠ i := by rintro rfl; exact hk hi
    have h2 : k ≠ j := by rintro rfl; exact hk hj
    simp [h1, h2]
  · intro k; simp only [swp]; split
    · rfl
    · split <;> rfl
theorem PmS.out {a b : Nat} {d e : Nat → Rk} (h : PmS a b d e) {i : Nat} (hi : ¬ (a ≤ i ∧ i < b)) : e i = d i := by
  obtain ⟨t, t', g1, g2, g3, g4⟩ := h
  rw [g4, g3 i hi]
theorem PmS.at {a b : Nat} {d e : Nat → Rk} (h : PmS a b d e) {i : Nat} (hi : a ≤ i ∧ i < b) : ∃ j, a ≤ j ∧ j < b ∧ e i = d j := by
  obtain ⟨t, t', g1, g2, g3, g4⟩ := h
  refine ⟨t i, ?_⟩
  by_cases h : a ≤ t i ∧ t i < b
  · exact ⟨h.1, h.2, g4 i⟩
  · have := g3 (t i) h
    have h2 : t i = i := by have := congrArg t' this; rwa [g2, g2] at this
    rw [h2] at h; exact absurd hi h
/-- A property of all elements of a part passes over. -/
theorem PmS.all {a b : Nat} {d e : Nat → Rk} (h : PmS a b d e) {p : Rk → Prop} (hp : ∀ i, a ≤ i → i < b → p (d i)) : ∀ i, a ≤ i → i < b → p (e i) := fun i h1 h2 => by
  obtain ⟨j, j1, j2, j3⟩ := h.at ⟨h1, h2⟩
  rw [j3]; exact hp j j1 j2
def SortedOn (a b : Nat) (d : Nat → Rk) : Prop := ∀ i j, a ≤ i → i < j → j < b → lt (d i) (d j)

/-- The insertion sort's inner loop: the i-th element on its way down, now at j. -/
structure Ins (a i : Nat) (d : Nat → Rk) (j : Nat) (e : Nat → Rk) : Prop where
  pm : PmS a (i + 1) d e
  lo : a ≤ j
  hi : j ≤ i
  pair : ∀ p q, a ≤ p → p < q → q ≤ i → p ≠ j → q ≠ j → lt (e p) (e q)
  up : ∀ q, j < q → q ≤ i → lt (e j) (e q)
  last : ∀ p, a ≤ p → p ≤ i → p ≠ j → (e p).at_ < (e j).at_
theorem Ins.start {a b i : Nat} {d e : Nat → Rk} (hat : ∀ i j, a ≤ i → i < j → j < b → (d i).at_ < (d j).at_) (hai : a ≤ i) (hib : i < b) (pm : PmS a i d e) (so : SortedOn a i e) : Ins a i d i e := by
  refine ⟨pm.mono (Nat.le_refl _) (by omega), hai, Nat.le_refl _, fun p q h1 h2 h3 h4 h5 => so p q h1 h2 (by omega), fun q h1 h2 => by omega, fun p h1 h2 h3 => ?_⟩
  obtain ⟨p', q1, q2, q3⟩ := pm.at (i := p) ⟨h1, by omega⟩
  rw [q3, pm.out (i := i) (by omega)]
  exact hat p' i q1 q2 hib
theorem Ins.down {a i j : Nat} {d e : Nat → Rk} (h : Ins a i d j e) (hj : a < j) (hc : cmpC (e j).c (e (j - 1)).c < 0) : Ins a i d (j - 1) (swp e j (j - 1)) := by
  have hhi := h.hi
  have v1 : swp e j (j - 1) j = e (j - 1) := by simp [swp]
  have v2 : swp e j (j - 1) (j - 1) = e j := by unfold swp; rw [if_neg (show ¬ (j - 1 = j) by omega), if_pos rfl]
  have v3 : ∀ k, k ≠ j → k ≠ j - 1 → swp e j (j - 1) k = e k := fun k h1 h2 => by simp only [swp]; rw [if_neg h1, if_neg h2]
  refine ⟨h.pm.trans (PmS.swap e ⟨by omega, by omega⟩ ⟨by omega, by omega⟩), by omega, by omega, ?_, ?_, ?_⟩
  · intro p q h1 h2 h3 h4 h5
    by_cases hp : p = j
    · subst hp; rw [v1, v3 q (by omega) (by omega)]
      exact h.pair _ _ (by omega) (by omega) h3 (by omega) (by omega)
    · by_cases hq : q = j
      · subst hq; rw [v1, v3 p hp h4]
        exact h.pair _ _ h1 (by omega) (by omega) hp (by omega)
      · rw [v3 p hp h4, v3 q hq h5]; exact h.pair _ _ h1 h2 h3 hp hq
  · intro q h1 h2
    rw [v2]
    by_cases hq : q = j
    · subst hq; rw [v1]; exact .inl hc
    · rw [v3 q hq (by omega)]; exact h.up q (by omega) h2
  · intro p h1 h2 h3
    rw [v2]
    by_cases hp : p = j
    · subst hp; rw [v1]; exact h.last _ (by omega) (by omega) (by omega)
    · rw [v3 p hp h3]; exact h.last p h1 h2 hp
theorem Ins.done {a i j : Nat} {d e : Nat → Rk} (h : Ins a i d j e) (hg : ∀ k, a ≤ k → k ≤ i → good (d k)) (hc : ¬ (a < j ∧ cmpC (e j).c (e (j - 1)).c < 0)) : SortedOn a (i + 1) e := by
  have hhi := h.hi
  have hlo := h.lo
  have ge : ∀ k, a ≤ k → k < i + 1 → good (e k) := h.pm.all (fun k h1 h2 => hg k h1 (by omega))
  intro p q h1 h2 h3
  by_cases hp : p = j
  · subst hp; exact h.up q h2 (by omega)
  · by_cases hq : q = j
    · subst hq
      have hl : lt (e (q - 1)) (e q) := lt_of_not (fun k => hc ⟨by omega, k⟩) (h.last _ (by omega) (by omega) (by omega))
      by_cases hpq : p = q - 1
      · subst hpq; exact hl
      · exact lt_trans (ge p h1 (by omega)) (ge (q - 1) (by omega) (by omega)) (ge q (by omega) (by omega)) (h.pair p (q - 1) h1 (by omega) (by omega) hp (by omega)) hl
    · exact h.pair p q h1 h2 (by omega) hp hq
end Sx
