/- The reference's order of the useful candidates. Conditions: as each theorem says. -/
import Derived.Test.YtpjabkjacldgcaaVl
namespace Sx
open Go Go.Proofs
theorem cmpC_self (x : Cd) : cmpC x x = 0 := by
  rw [cmpC_zero]
  refine ⟨?_, rfl, rfl⟩
  unfold SEq
  by_cases h : x.D = 0
  · exact .inl ⟨h, h⟩
  · exact .inr ⟨h, h, rfl⟩
theorem lt_irrefl (x : Rk) : ¬ lt x x := by
  unfold lt; rw [cmpC_self]; omega
theorem lt_asymm {x y : Rk} (hx : good x) (hy : good y) (h : lt x y) (g : lt y x) : False := lt_irrefl x (lt_trans hx hy hx h g)
/-- o's first m are the useful ones of the n candidates, by preference. -/
structure Rank (n : Nat) (c : Nat → Cd) (m : Nat) (o : Nat → Nat) : Prop where
  so : ∀ a b, a < b → b < m → lt (allR c (o a)) (allR c (o b))
  use : ∀ a, a < m → o a < n ∧ (c (o a)).use = true
  all : ∀ k, k < n → (c k).use = true → ∃ a, a < m ∧ o a = k
theorem Rank.good {n m : Nat} {c : Nat → Cd} {o : Nat → Nat} (h : Rank n c m o) (hv : ∀ i, i < n → (c i).ok = true) {a : Nat} (ha : a < m) : good (allR c (o a)) := ⟨hv _ (h.use a ha).1, (h.use a ha).2⟩
theorem Rank.same {n m m' : Nat} {c : Nat → Cd} {o o' : Nat → Nat} (h : Rank n c m o) (g : Rank n c m' o') (hv : ∀ i, i < n → (c i).ok = true) : ∀ a, a < m → a < m' ∧ o a = o' a := by
  intro a
  induction a using Nat.strongRecOn with
  | ind a ih =>
    intro ha
    obtain ⟨b, hb, hb2⟩ := g.all (o a) (h.use a ha).1 (h.use a ha).2
    have hab : a ≤ b := by
      rcases Nat.lt_or_ge b a with q | q
      · exfalso
        have := ih b q (by omega)
        have h2 := h.so b a q ha
        rw [this.2, hb2] at h2
        exact lt_irrefl _ h2
      · exact q
    have ha' : a < m' := by omega
    obtain ⟨d, hd, hd2⟩ := h.all (o' a) (g.use a ha').1 (g.use a ha').2
    have had : a ≤ d := by
      rcases Nat.lt_or_ge d a with q | q
      · exfalso
        have := ih d q (by omega)
        have h2 := g.so d a q ha'
        rw [← this.2, hd2] at h2
        exact lt_irrefl _ h2
      · exact q
    refine ⟨ha', ?_⟩
    by_cases e : a = b
    · rw [← hb2, e]
    · exfalso
      have h1 := g.so a b (by omega) hb
      rw [hb2, ← hd2] at h1
      by_cases e2 : a = d
      · subst e2; exact lt_irrefl _ h1
      · exact lt_asymm (h.good hv hd) (h.good hv ha) h1 (h.so a d (by omega) hd)
theorem Rank.len {n m m' : Nat} {c : Nat → Cd} {o o' : Nat → Nat} (h : Rank n c m o) (g : Rank n c m' o') (hv : ∀ i, i < n → (c i).ok = true) : m = m' := by
  rcases Nat.lt_trichotomy m m' with q | q | q
  · exact absurd (g.same h hv m q).1 (by omega)
  · exact q
  · exact absurd (h.same g hv m' q).1 (by omega)
theorem Ord.rank {n m : Nat} {c : Nat → Cd} {e : Nat → Rk} (h : Ord n c m e) : ∃ o, Rank n c m o ∧ ∀ a, a < m → e a = allR c (o a) := by
  obtain ⟨f, ⟨φ, h1, h2, h3⟩, h4, h5⟩ := h
  have key : ∀ a, a < m → ∃ q, q < m ∧ e a = allR c (φ q) := fun a ha => by
    obtain ⟨q, _, q2, q3⟩ := h4.at (i := a) ⟨Nat.zero_le _, ha⟩
    exact ⟨q, q2, q3.trans (h2 q q2).2.1⟩
  have he : ∀ a, a < m → e a = allR c (e a).at_.toNat := fun a ha => by
    obtain ⟨q, q1, q2⟩ := key a ha
    rw [q2]; rfl
  refine ⟨fun a => (e a).at_.toNat, ⟨fun a b hab hb => ?_, fun a ha => ?_, fun k hk hu => ?_⟩, he⟩
  · rw [← he a (by omega), ← he b hb]; exact h5 a b (Nat.zero_le _) hab hb
  · obtain ⟨q, q1, q2⟩ := key a ha
    have e2 : (e a).at_.toNat = φ q := by rw [q2]; rfl
    simp only [e2]
    have := h2 q q1
    refine ⟨this.1, ?_⟩
    have h6 := this.2.2
    rw [this.2.1] at h6; exact h6
  · obtain ⟨i, hi, hi2⟩ := h3 k hk hu
    obtain ⟨r, _, r2, r3⟩ := h4.inv (i := i) ⟨Nat.zero_le _, hi⟩
    refine ⟨r, r2, ?_⟩
    rw [r3, (h2 i hi).2.1, hi2]; rfl
/-- A row of numbers. -/
def ir (o : Nat → Nat) : Nat → Nat → SV := fun j k =>
  match k with
  | 0 => .int .i64 (o j)
  | _ => .und
theorem ren_ir (nx : Nat) (sg : List Nat) (o : Nat → Nat) (i k : Nat) : ren nx sg (ir o i k) = ir o i k := by
  unfold ir; split <;> simp only [ren, renF, id]
theorem renR_ir (nx : Nat) (sg : List Nat) (o : Nat → Nat) : renR nx sg (ir o) = ir o := by funext i k; exact ren_ir nx sg o i k
def ins (o : Nat → Nat) (k x : Nat) : Nat → Nat := fun j => if j < k then o j else if j = k then x else o (j - 1)
theorem Rank.zero (c : Nat → Cd) (o : Nat → Nat) : Rank 0 c 0 o := ⟨fun _ _ _ h => by omega, fun _ h => by omega, fun _ h => by omega⟩
theorem Rank.skip {i m : Nat} {c : Nat → Cd} {o : Nat → Nat} (h : Rank i c m o) (hu : (c i).use = false) : Rank (i + 1) c m o := by
  refine ⟨h.so, fun a ha => ⟨by have := (h.use a ha).1; omega, (h.use a ha).2⟩, fun k hk hk2 => ?_⟩
  by_cases e : k = i
  · subst e; rw [hu] at hk2; cases hk2
  · exact h.all k (by omega) hk2
theorem Rank.push {i m k : Nat} {c : Nat → Cd} {o : Nat → Nat} (h : Rank i c m o) (hv : ∀ j, j < i + 1 → (c j).ok = true) (hu : (c i).use = true) (hk : k ≤ m) (h1 : ∀ a, a < k → lt (allR c (o a)) (allR c i)) (h2 : ∀ a, k ≤ a → a < m → lt (allR c i) (allR c (o a))) :
    Rank (i + 1) c (m + 1) (ins o k i) := by
  have v1 : ∀ j, j < k → ins o k i j = o j := fun j hj => by unfold ins; rw [if_pos hj]
  have v2 : ins o k i k = i := by unfold ins; rw [if_neg (by omega), if_pos rfl]
  have v3 : ∀ j, k < j → ins o k i j = o (j - 1) := fun j hj => by unfold ins; rw [if_neg (by omega), if_neg (by omega)]
  refine ⟨fun a b hab hb => ?_, fun a ha => ?_, fun j hj hu2 => ?_⟩
  · rcases Nat.lt_trichotomy a k with q | q | q
    · rw [v1 a q]
      rcases Nat.lt_trichotomy b k with r | r | r
      · rw [v1 b r]; exact h.so a b hab (by omega)
      · rw [r, v2]; exact h1 a q
      · rw [v3 b r]; exact h.so a (b - 1) (by omega) (by omega)
    · rw [q, v2, v3 b (by omega)]; exact h2 _ (by omega) (by omega)
    · rw [v3 a q, v3 b (by omega)]; exact h.so _ _ (by omega) (by omega)
  · rcases Nat.lt_trichotomy a k with q | q | q
    · rw [v1 a q]; have := h.use a (by omega); exact ⟨by omega, this.2⟩
    · rw [q, v2]; exact ⟨by omega, hu⟩
    · rw [v3 a q]; have := h.use (a - 1) (by omega); exact ⟨by omega, this.2⟩
  · by_cases e : j = i
    · exact ⟨k, by omega, by rw [v2, e]⟩
    · obtain ⟨a, a1, a2⟩ := h.all j (by omega) hu2
      rcases Nat.lt_or_ge a k with q | q
      · exact ⟨a, by omega, by rw [v1 a q]; exact a2⟩
      · exact ⟨a + 1, by omega, by rw [v3 (a + 1) (by omega)]; simpa using a2⟩
def rfOk (n : Nat) (c : Nat → Cd) : Option (Nat × (Nat → Nat)) → Prop
  | none => ∃ i, i < n ∧ (c i).ok = false
  | some (m, o) => (∀ i, i < n → (c i).ok = true) ∧ Rank n c m o
def rfOut : Option (Nat × (Nat → Nat)) → Out
  | none => ⟨.tup [.nilsl, .int .i64 2], [], 2⟩
  | some z => ⟨.tup [.sq 1 0 0 1 z.1 .own, .int .i64 0], [(1, .row 0 z.1 z.1 1 (ir z.2) 3)], 2⟩
end Sx
