/- What the picks of a round give to each class. No program in sight. Conditions: as each theorem says. -/
import Derived.Test.YtkoeikjcnancdaaAz
set_option linter.unusedSimpArgs false
set_option linter.unusedVariables false
namespace Sx
open Go Go.Proofs
structure SSt (b hi me lo : Int) (cnt : Nat → Nat) (k i : Nat) (s : ASt) (Q ld : Ld) : Prop where
  q : QOk s Q
  fw : s.w = true
  fb : s.b = b
  fhi : s.hi = hi
  fme : s.me = me
  flo : s.lo = lo
  f1 : s.c1 = hi
  f2 : s.c2 = me
  f3 : s.c3 = lo
  m : ∀ p, p ∈ Q ↔ ∃ kk ii : Nat, kk < 3 ∧ ((kk < k ∧ ii < cnt kk) ∨ (kk = k ∧ ii < i)) ∧ p = (10 * (ii : Int) + (kk : Int), (kk : Int) + 1)
  k : LdOk s ld
  h : ∀ a, hasQ ld a = hasQ Q a
  v : ∀ a, hasQ ld a = true → wv ld a = 1000
theorem SSt.new {b hi me lo : Int} (cnt : Nat → Nat) : SSt b hi me lo cnt 0 0 (aNew true b hi me lo) [] [] :=
  ⟨.nil _ _ _ _ _, rfl, rfl, rfl, rfl, rfl, rfl, rfl, rfl, fun p => ⟨fun h => (List.not_mem_nil h).elim, fun ⟨kk, ii, h1, h2, h3⟩ => by omega⟩, fun i hi => by simp at hi, fun _ => rfl, fun a h => by cases h⟩
theorem SSt.add {b hi me lo : Int} {cnt : Nat → Nat} {k i : Nat} {s : ASt} {Q ld : Ld} (h : SSt b hi me lo cnt k i s Q ld) (hk : k < 3) (hi' : i < 4) (hcnt : ∀ j, cnt j < 4) :
    addE s (10 * (i : Int) + (k : Int)) ((k : Int) + 1) = 0 ∧ SSt b hi me lo cnt k (i + 1) (addS s (10 * (i : Int) + (k : Int)) ((k : Int) + 1)) (insQ (10 * (i : Int) + (k : Int)) ((k : Int) + 1) Q) (ld ++ [(10 * (i : Int) + (k : Int), 1000)]) := by
  have h1 : ¬ (10 * (i : Int) + (k : Int) < 0 ∨ 65535 < 10 * (i : Int) + (k : Int) ∨ (k : Int) + 1 < 0 ∨ 3 < (k : Int) + 1) := by omega
  have hno : hasQ Q (10 * (i : Int) + (k : Int)) = false := by
    cases hb : hasQ Q (10 * (i : Int) + (k : Int)) with
    | false => rfl
    | true =>
      obtain ⟨p, hp, e⟩ := hasQ_iff.1 hb
      obtain ⟨kk, ii, g1, g2, rfl⟩ := (h.m p).1 hp
      have e : 10 * (ii : Int) + (kk : Int) = 10 * (i : Int) + (k : Int) := e
      omega
  have h2 : s.h (10 * (i : Int) + (k : Int)) = false := by rw [h.q.h]; exact hno
  have he : addE s (10 * (i : Int) + (k : Int)) ((k : Int) + 1) = 0 := by simp [addE, h1, h2]
  have hl : hasQ ld (10 * (i : Int) + (k : Int)) = false := by rw [h.h]; exact hno
  obtain ⟨a1, a2, a3, a4, a5, _, _, _, _, _, a6, a7, a8⟩ := addS_num s (10 * (i : Int) + (k : Int)) ((k : Int) + 1)
  refine ⟨he, h.q.add he, a1.trans h.fw, a2.trans h.fb, a3.trans h.fhi, a4.trans h.fme, a5.trans h.flo, a6.trans h.f1, a7.trans h.f2, a8.trans h.f3, fun p => ?_, h.k.snoc hl he (by decide), fun a => ?_, fun a ha => ?_⟩
  · rw [mem_insQ, h.m]
    constructor
    · rintro (rfl | ⟨kk, ii, g1, g2, rfl⟩)
      · exact ⟨k, i, hk, .inr ⟨rfl, Nat.lt_succ_self _⟩, rfl⟩
      · exact ⟨kk, ii, g1, by omega, rfl⟩
    · rintro ⟨kk, ii, g1, g2, rfl⟩
      by_cases e : kk = k ∧ ii = i
      · obtain ⟨rfl, rfl⟩ := e; exact .inl rfl
      · exact .inr ⟨kk, ii, g1, by omega, rfl⟩
  · rw [hasQ_snoc, hasQ_ins, h.h]
  · rw [wv_snoc _ _ _ hl]
    split
    · rfl
    · rename_i hne
      rw [hasQ_snoc, Bool.or_eq_true] at ha
      rcases ha with ha | ha
      · exact absurd (by simpa [ieq] using ha) hne
      · exact h.v a ha
theorem SSt.next {b hi me lo : Int} {cnt : Nat → Nat} {k : Nat} {s : ASt} {Q ld : Ld} (h : SSt b hi me lo cnt k (cnt k) s Q ld) : SSt b hi me lo cnt (k + 1) 0 s Q ld := by
  refine ⟨h.q, h.fw, h.fb, h.fhi, h.fme, h.flo, h.f1, h.f2, h.f3, fun p => ?_, h.k, h.h, h.v⟩
  rw [h.m]
  constructor
  · rintro ⟨kk, ii, g1, g2, rfl⟩
    refine ⟨kk, ii, g1, ?_, rfl⟩
    rcases g2 with ⟨g2, g3⟩ | ⟨rfl, g3⟩
    · exact .inl ⟨by omega, g3⟩
    · exact .inl ⟨by omega, g3⟩
  · rintro ⟨kk, ii, g1, g2, rfl⟩
    refine ⟨kk, ii, g1, ?_, rfl⟩
    rcases g2 with ⟨g2, g3⟩ | ⟨_, g3⟩
    · rcases Nat.lt_or_ge kk k with g4 | g4
      · exact .inl ⟨g4, g3⟩
      · have : kk = k := by omega
        subst this
        exact .inr ⟨rfl, g3⟩
    · exact absurd g3 (Nat.not_lt_zero _)
/-- The sum of the weights of the classes that have queues. -/
def totS (hi me lo : Int) (cnt : Nat → Nat) : Int := (if 0 < cnt 0 then hi else 0) + (if 0 < cnt 1 then me else 0) + (if 0 < cnt 2 then lo else 0)
/-- Within a round. -/
structure RSt (b hi me lo : Int) (cnt : Nat → Nat) (Q ld : Ld) (s : ASt) (g1 g2 g3 : Int) : Prop where
  q : QOk s Q
  fw : s.w = true
  fb : s.b = b
  fhi : s.hi = hi
  fme : s.me = me
  flo : s.lo = lo
  k : LdOk s ld
  b1 : 0 ≤ s.c1 ∧ s.c1 ≤ hi
  b2 : 0 ≤ s.c2 ∧ s.c2 ≤ me
  b3 : 0 ≤ s.c3 ∧ s.c3 ≤ lo
  z : (0 < cnt 0 ∨ g1 = 0) ∧ (0 < cnt 1 ∨ g2 = 0) ∧ (0 < cnt 2 ∨ g3 = 0)
  p : 0 ≤ g1 ∧ 0 ≤ g2 ∧ 0 ≤ g3
  d : (g1 = 0 ∧ g2 = 0 ∧ g3 = 0 ∧ (0 < cnt 0 → s.c1 = 0) ∧ (0 < cnt 1 → s.c2 = 0) ∧ (0 < cnt 2 → s.c3 = 0)) ∨ ((0 < cnt 0 → g1 + s.c1 = hi) ∧ (0 < cnt 1 → g2 + s.c2 = me) ∧ (0 < cnt 2 → g3 + s.c3 = lo))
/-- What stays the same in all rounds. -/
structure RFix (b hi me lo : Int) (cnt : Nat → Nat) (Q ld : Ld) : Prop where
  m : ∀ p, p ∈ Q ↔ ∃ kk ii : Nat, kk < 3 ∧ ii < cnt kk ∧ p = (10 * (ii : Int) + (kk : Int), (kk : Int) + 1)
  h : ∀ a, hasQ ld a = hasQ Q a
  v : ∀ a, hasQ ld a = true → wv ld a = 1000
  b : 0 ≤ b ∧ b ≤ 128
  hi : 1 ≤ hi ∧ hi ≤ 40
  me : 1 ≤ me ∧ me ≤ 40
  lo : 1 ≤ lo ∧ lo ≤ 40
theorem SSt.fix {b hi me lo : Int} {cnt : Nat → Nat} {s : ASt} {Q ld : Ld} (h : SSt b hi me lo cnt 3 0 s Q ld) (hb : 0 ≤ b ∧ b ≤ 128) (h1 : 1 ≤ hi ∧ hi ≤ 40) (h2 : 1 ≤ me ∧ me ≤ 40) (h3 : 1 ≤ lo ∧ lo ≤ 40) : RFix b hi me lo cnt Q ld := by
  refine ⟨fun p => ?_, h.h, h.v, hb, h1, h2, h3⟩
  rw [h.m]
  constructor
  · rintro ⟨kk, ii, g1, g2, rfl⟩
    exact ⟨kk, ii, g1, by omega, rfl⟩
  · rintro ⟨kk, ii, g1, g2, rfl⟩
    exact ⟨kk, ii, g1, .inl ⟨g1, g2⟩, rfl⟩
theorem SSt.start {b hi me lo : Int} {cnt : Nat → Nat} {s : ASt} {Q ld : Ld} (h : SSt b hi me lo cnt 3 0 s Q ld) (h1 : 1 ≤ hi ∧ hi ≤ 40) (h2 : 1 ≤ me ∧ me ≤ 40) (h3 : 1 ≤ lo ∧ lo ≤ 40) : RSt b hi me lo cnt Q ld s 0 0 0 := by
  obtain ⟨a1, a2, a3, a4, a5, a6, a7, a8, a9, a10, a11, a12, a13⟩ := h
  exact ⟨a1, a2, a3, a4, a5, a6, a11, by omega, by omega, by omega, ⟨.inr rfl, .inr rfl, .inr rfl⟩, by omega, .inr ⟨fun _ => by omega, fun _ => by omega, fun _ => by omega⟩⟩
theorem RSt.cred {b hi me lo : Int} {cnt : Nat → Nat} {Q ld : Ld} {s : ASt} {g1 g2 g3 : Int} (f : RFix b hi me lo cnt Q ld) (h : RSt b hi me lo cnt Q ld s g1 g2 g3) : CredOk s := fun _ => by
  have h1 := h.b1
  have h2 := h.b2
  have h3 := h.b3
  have h4 := h.fhi
  have h5 := h.fme
  have h6 := h.flo
  have h7 := f.hi
  have h8 := f.me
  have h9 := f.lo
  unfold CB
  omega
theorem RSt.pick {b hi me lo : Int} {cnt : Nat → Nat} {Q ld : Ld} {s : ASt} {g1 g2 g3 : Int} (f : RFix b hi me lo cnt Q ld) (h : RSt b hi me lo cnt Q ld s g1 g2 g3) (hlt : g1 + g2 + g3 < totS hi me lo cnt) :
    ∃ kk ii : Nat, kk < 3 ∧ ii < cnt kk ∧ (pickR s (lQ Q ld) (wv ld)).q = 10 * (ii : Int) + (kk : Int) ∧ (pickR s (lQ Q ld) (wv ld)).e = 0 ∧ 1 ≤ (pickR s (lQ Q ld) (wv ld)).n ∧ (pickR s (lQ Q ld) (wv ld)).n ≤ 40 ∧
      RSt b hi me lo cnt Q ld (pickR s (lQ Q ld) (wv ld)).s (if kk = 0 then g1 + (pickR s (lQ Q ld) (wv ld)).n else g1) (if kk = 1 then g2 + (pickR s (lQ Q ld) (wv ld)).n else g2) (if kk = 2 then g3 + (pickR s (lQ Q ld) (wv ld)).n else g3) := by
  have hin : ∀ kk ii : Nat, kk < 3 → ii < cnt kk → (10 * (ii : Int) + (kk : Int)) ∈ lQ Q ld := fun kk ii h1 h2 => by
    have h3 : hasQ Q (10 * (ii : Int) + (kk : Int)) = true := hasQ_iff.2 ⟨_, (f.m _).2 ⟨kk, ii, h1, h2, rfl⟩, rfl⟩
    exact lQ_mem.2 ⟨h3, by rw [f.v _ (by rw [f.h]; exact h3)]; decide⟩
  have hcls : ∀ kk ii : Nat, kk < 3 → ii < cnt kk → s.cls (10 * (ii : Int) + (kk : Int)) = (kk : Int) + 1 := fun kk ii h1 h2 => by
    have h3 := (f.m _).2 ⟨kk, ii, h1, h2, rfl⟩
    have h4 : s.h (10 * (ii : Int) + (kk : Int)) = true := by rw [h.q.h]; exact hasQ_iff.2 ⟨_, h3, rfl⟩
    unfold ASt.cls
    rw [h.fw, h4]
    exact h.q.v _ h3
  have hwt : ∀ kk : Nat, kk < 3 → 0 < cnt kk → waits s (lQ Q ld) ((kk : Int) + 1) = true := fun kk h1 h2 => waits_iff.2 ⟨_, hin kk 0 h1 h2, hcls kk 0 h1 h2⟩
  obtain ⟨f1, f2, f3⟩ := h.p
  have hne : lQ Q ld ≠ [] := by
    have : 0 < cnt 0 ∨ 0 < cnt 1 ∨ 0 < cnt 2 := by
      unfold totS at hlt
      by_cases k0 : 0 < cnt 0
      · exact .inl k0
      · by_cases k1 : 0 < cnt 1
        · exact .inr (.inl k1)
        · by_cases k2 : 0 < cnt 2
          · exact .inr (.inr k2)
          · rw [if_neg k0, if_neg k1, if_neg k2] at hlt; omega
    rcases this with k | k | k
    · exact List.ne_nil_of_mem (hin 0 0 (by decide) k)
    · exact List.ne_nil_of_mem (hin 1 0 (by decide) k)
    · exact List.ne_nil_of_mem (hin 2 0 (by decide) k)
  obtain ⟨c, s1, hd⟩ := pick_d (h.cred f) hne (fun q _ => h.q.c4 q) (wv ld)
  generalize pickR s (lQ Q ld) (wv ld) = z at hd ⊢
  have hpos : ∀ q ∈ lQ Q ld, 0 < wv ld q := fun q hq => (lQ_mem.1 hq).2
  obtain ⟨n1, n2, n3⟩ := hd.n1 hpos
  obtain ⟨q1, _⟩ := lQ_mem.1 hd.q
  obtain ⟨p, hp, e⟩ := hasQ_iff.1 q1
  obtain ⟨kk, ii, k1, k2, rfl⟩ := (f.m p).1 hp
  have e : 10 * (ii : Int) + (kk : Int) = z.q := e
  have hc : (kk : Int) + 1 = c := by rw [← hd.cq, ← e]; exact (hcls kk ii k1 k2).symm
  have hwv : wv ld z.q = 1000 := f.v _ (by rw [f.h]; exact q1)
  have hn := hd.n
  have hz := hd.zs
  rw [if_neg (by omega : ¬ c = 0)] at hn hz
  have hcr := hd.cr (by omega)
  have hw0 := hwt 0 (by decide)
  have hw1 := hwt 1 (by decide)
  have hw2 := hwt 2 (by decide)
  have hs1 : (s1 = s ∧ ((0 < cnt 0 → g1 + s.c1 = hi) ∧ (0 < cnt 1 → g2 + s.c2 = me) ∧ (0 < cnt 2 → g3 + s.c3 = lo))) ∨ (s1 = s.refill ∧ g1 = 0 ∧ g2 = 0 ∧ g3 = 0) := by
    rcases hd.o1 with rfl | ⟨rfl, hall⟩
    · rcases h.d with ⟨d1, d2, d3, d4, d5, d6⟩ | hd'
      · exfalso
        have : kk = 0 ∨ kk = 1 ∨ kk = 2 := by omega
        rcases this with rfl | rfl | rfl
        · have := d4 (by omega); subst hc; simp [ASt.cred] at hcr; omega
        · have := d5 (by omega); subst hc; simp [ASt.cred] at hcr; omega
        · have := d6 (by omega); subst hc; simp [ASt.cred] at hcr; omega
      · exact .inl ⟨rfl, hd'⟩
    · rcases h.d with ⟨d1, d2, d3, _⟩ | ⟨d1, d2, d3⟩
      · exact .inr ⟨rfl, d1, d2, d3⟩
      · exfalso
        have a1 : 0 < cnt 0 → s.c1 ≤ 0 := fun k => hall 1 (.inl rfl) (hw0 k)
        have a2 : 0 < cnt 1 → s.c2 ≤ 0 := fun k => hall 2 (.inr (.inl rfl)) (hw1 k)
        have a3 : 0 < cnt 2 → s.c3 ≤ 0 := fun k => hall 3 (.inr (.inr rfl)) (hw2 k)
        unfold totS at hlt
        by_cases k0 : 0 < cnt 0 <;> by_cases k1 : 0 < cnt 1 <;> by_cases k2 : 0 < cnt 2 <;> simp only [k0, k1, k2, if_true, if_false] at hlt a1 a2 a3 d1 d2 d3 <;> simp at a1 a2 a3 d1 d2 d3 <;> omega
  have hz1 := h.z
  have hb1 := h.b1
  have hb2 := h.b2
  have hb3 := h.b3
  have hh1 := h.fhi
  have hh2 := h.fme
  have hh3 := h.flo
  have hf1 := f.hi
  have hf2 := f.me
  have hf3 := f.lo
  have hle : z.n ≤ s1.cred c := by rw [hn]; exact Int.min_le_right ..
  have hkk : kk = 0 ∨ kk = 1 ∨ kk = 2 := by omega
  refine ⟨kk, ii, k1, k2, e.symm, hd.e, n1, ?_, ?_⟩
  · rcases hs1 with ⟨rfl, _⟩ | ⟨rfl, _⟩
    all_goals
      rcases hkk with rfl | rfl | rfl
      all_goals
        subst hc
        simp [ASt.cred, ASt.refill] at hle
        omega
  have hsz : z.s.w = s.w ∧ z.s.b = s.b ∧ z.s.h = s.h ∧ z.s.v = s.v ∧ z.s.hi = s.hi ∧ z.s.me = s.me ∧ z.s.lo = s.lo := by
    rw [hz]
    rcases hs1 with ⟨rfl, _⟩ | ⟨rfl, _⟩
    all_goals
      unfold setLast setCred
      (repeat' split) <;> exact ⟨rfl, rfl, rfl, rfl, rfl, rfl, rfl⟩
  obtain ⟨s1', s2', s3', s4', s5', s6', s7'⟩ := hsz
  have hcs : (z.s.c1 = if kk = 0 then s1.c1 - z.n else s1.c1) ∧ (z.s.c2 = if kk = 1 then s1.c2 - z.n else s1.c2) ∧ (z.s.c3 = if kk = 2 then s1.c3 - z.n else s1.c3) := by
    rw [hz]
    rcases hkk with rfl | rfl | rfl
    all_goals
      subst hc
      simp [setLast, setCred, ASt.cred]
  obtain ⟨t1, t2, t3⟩ := hcs
  have hq := h.q.same s3' s4'
  have hk := h.k.same s3'
  rcases hs1 with ⟨rfl, d1, d2, d3⟩ | ⟨rfl, rfl, rfl, rfl⟩
  all_goals
    rcases hkk with rfl | rfl | rfl
    all_goals
      subst hc
      simp [ASt.cred, ASt.refill] at hle t1 t2 t3
      simp only [if_true, if_false, (by decide : (0 : Nat) ≠ 1), (by decide : (0 : Nat) ≠ 2), (by decide : (1 : Nat) ≠ 0), (by decide : (1 : Nat) ≠ 2), (by decide : (2 : Nat) ≠ 0), (by decide : (2 : Nat) ≠ 1)]
      refine ⟨hq, s1'.trans h.fw, s2'.trans h.fb, s5'.trans hh1, s6'.trans hh2, s7'.trans hh3, hk, by omega, by omega, by omega, by omega, by omega, .inr ⟨fun hx => ?_, fun hx => ?_, fun hx => ?_⟩⟩
      all_goals
        first
          | (have := d1 hx; omega)
          | (have := d2 hx; omega)
          | (have := d3 hx; omega)
          | omega
theorem RSt.done {b hi me lo : Int} {cnt : Nat → Nat} {Q ld : Ld} {s : ASt} {g1 g2 g3 : Int} (f : RFix b hi me lo cnt Q ld) (h : RSt b hi me lo cnt Q ld s g1 g2 g3) (hge : ¬ g1 + g2 + g3 < totS hi me lo cnt) (ht : 0 < totS hi me lo cnt) :
    (0 < cnt 0 → g1 = hi) ∧ (0 < cnt 1 → g2 = me) ∧ (0 < cnt 2 → g3 = lo) ∧ (cnt 0 = 0 → g1 = 0) ∧ (cnt 1 = 0 → g2 = 0) ∧ (cnt 2 = 0 → g3 = 0) ∧ RSt b hi me lo cnt Q ld s 0 0 0 := by
  have hb1 := h.b1
  have hb2 := h.b2
  have hb3 := h.b3
  obtain ⟨z1, z2, z3⟩ := h.z
  unfold totS at hge ht
  have key : (0 < cnt 0 → g1 = hi ∧ s.c1 = 0) ∧ (0 < cnt 1 → g2 = me ∧ s.c2 = 0) ∧ (0 < cnt 2 → g3 = lo ∧ s.c3 = 0) := by
    rcases h.d with ⟨d1, d2, d3, _⟩ | ⟨d1, d2, d3⟩
    · omega
    · by_cases k0 : 0 < cnt 0 <;> by_cases k1 : 0 < cnt 1 <;> by_cases k2 : 0 < cnt 2 <;> simp only [k0, k1, k2, if_true, if_false] at hge ht d1 d2 d3 <;> simp at d1 d2 d3 <;> simp only [k0, k1, k2, forall_const, false_implies, true_and, and_true] <;> omega
  obtain ⟨e1, e2, e3⟩ := key
  refine ⟨fun k => (e1 k).1, fun k => (e2 k).1, fun k => (e3 k).1, fun k => by omega, fun k => by omega, fun k => by omega, h.q, h.fw, h.fb, h.fhi, h.fme, h.flo, h.k, hb1, hb2, hb3, ⟨.inr rfl, .inr rfl, .inr rfl⟩, by omega, .inl ⟨rfl, rfl, rfl, fun k => (e1 k).2, fun k => (e2 k).2, fun k => (e3 k).2⟩⟩
end Sx
