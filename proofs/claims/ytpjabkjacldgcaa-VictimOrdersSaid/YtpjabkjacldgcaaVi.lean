/- Choose: what it gives. Conditions: as the theorem says. -/
import Derived.Test.YtpjabkjacldgcaaVh
import Derived.Test.YtpjabkjacldgcaaEng28
namespace Sx
open Go Go.Proofs
def choOk (n : Nat) (c : Nat → Cd) (z : Int × Int) : Prop :=
  ((∃ i, i < n ∧ (c i).ok = false) ∧ z = (0, 2)) ∨
  ((∀ i, i < n → (c i).ok = true) ∧ (∀ i, i < n → (c i).use = false) ∧ z = (0, 9)) ∨
  ((∀ i, i < n → (c i).ok = true) ∧ ∃ k, k < n ∧ (c k).use = true ∧ (∀ i, i < n → (c i).use = true → i ≠ k → lt (allR c k) (allR c i)) ∧ z = ((k : Int), 0))
theorem PmS.inv {a b : Nat} {d e : Nat → Rk} (h : PmS a b d e) {i : Nat} (hi : a ≤ i ∧ i < b) : ∃ j, a ≤ j ∧ j < b ∧ e j = d i := by
  obtain ⟨t, t', g1, g2, g3, g4⟩ := h
  refine ⟨t' i, ?_⟩
  by_cases h : a ≤ t' i ∧ t' i < b
  · exact ⟨h.1, h.2, by rw [g4, g1]⟩
  · have := g3 (t' i) h
    rw [g1] at this
    rw [← this] at h; exact absurd hi h
theorem Ord.first {n m : Nat} {c : Nat → Cd} {e : Nat → Rk} (h : Ord n c m e) (hm : 0 < m) :
    ∃ k, k < n ∧ e 0 = allR c k ∧ (c k).use = true ∧ ∀ i, i < n → (c i).use = true → i ≠ k → lt (allR c k) (allR c i) := by
  obtain ⟨f, ⟨φ, h1, h2, h3⟩, h4, h5⟩ := h
  obtain ⟨q, _, q2, q3⟩ := h4.at (i := 0) ⟨Nat.le_refl _, hm⟩
  obtain ⟨t1, t2, t3⟩ := h2 q q2
  refine ⟨φ q, t1, q3.trans t2, by rw [t2] at t3; exact t3, fun i hi hu hne => ?_⟩
  obtain ⟨p, p1, p2⟩ := h3 i hi hu
  obtain ⟨r, _, r2, r3⟩ := h4.inv (i := p) ⟨Nat.zero_le _, p1⟩
  have e1 : e r = allR c i := by rw [r3, (h2 p p1).2.1, p2]
  have e0 : e 0 = allR c (φ q) := q3.trans t2
  have hr : r ≠ 0 := by
    rintro rfl
    rw [e0] at e1
    have := congrArg Rk.at_ e1
    simp only [allR] at this
    omega
  rw [← e0, ← e1]
  exact h5 0 r (Nat.le_refl _) (by omega) r2
def modeI (l : List Nat) (s : SumL) : Mode := { st := true, unr := false, inl := fun f => hasN f l, sum := sumOf s, keep := fun _ => none }
theorem exI (l : List Nat) {B : Base} (hB : B.ok) {ro : Hp} {f : FuncId} {R : Ending → World → Prop} {s : SumL} (hs : SumOk Try.prog (sumOf s)) (m : Nat) {cs : List Prop} {c c' : Cfg} (h : exec Try.prog (modeI l s) ro m [] c = (cs, c')) (hc : conj cs)
    (hr : Run Try.prog ro B f R c') : Run Try.prog ro B f R c := run_exec named hB hs m h hc hr
theorem choose_hc (off n : Nat) (c : Nat → Cd) (hn : n ≤ maxN) :
    HC Try.prog 9 [.sq 0 off 0 4 n .no] [] (candH off n c) 1 (choOk n c) (fun z => ⟨.tup [.int .i64 z.1, .int .i64 z.2], [], 1⟩) := by
  refine hc_of_run Try.func9 rfl (fun B hB hpin => ?_)
  refine goN hB s7_ok rfl rfl (by simp [conj]) ?_
  refine run_callC (order_hc off n c hn) named hB [0] rfl rfl rfl rfl (by simp [conj]) (by simp [conj, ren_ck, less_rfl]) ?_
  rintro (_ | ⟨m, e⟩) hz
  · have hz : ∃ i, i < n ∧ (c i).ok = false := hz
    refine ⟨show 1 ≤ 2 by omega, _, _, _, rfl, rfl, rfl, ?_⟩
    refine goN hB s7_ok rfl rfl (by simp [conj]) ?_
    exact run_retC hpin (0, 2) (.inl ⟨hz, rfl⟩) [0] rfl rfl (by simp [conj]) rfl (by simp [conj, ren_ck, less_rfl])
  have hz : (∀ i, i < n → (c i).ok = true) ∧ Ord n c m e := hz
  refine ⟨show 1 ≤ 2 by omega, _, _, _, rfl, rfl, rfl, ?_⟩
  refine exI [12] hB s7_ok 300 rfl (by simp [conj]) ?_
  refine run_callC (order_hc off n c hn) named hB [0] rfl rfl rfl rfl (by simp [conj]) (by simp [conj, ren_ck, less_rfl]) ?_
  rintro (_ | ⟨m', e'⟩) hz2
  · obtain ⟨i, i1, i2⟩ : ∃ i, i < n ∧ (c i).ok = false := hz2
    rw [hz.1 i i1] at i2; cases i2
  have hz2 : (∀ i, i < n → (c i).ok = true) ∧ Ord n c m' e' := hz2
  obtain ⟨_, hord⟩ := hz2
  refine ⟨show 1 ≤ 2 by omega, _, _, _, rfl, rfl, rfl, ?_⟩
  refine exI [12] hB s7_ok 300 rfl (by simp [conj]) ?_
  refine run_range named hB rfl rfl (by simp [conj]) rfl rfl rfl rfl ?_
  intro D l
  refine goN (Base.pin2_ok hB) s7_ok rfl rfl (by simp [conj]) ?_
  refine run_loop ?_
  refine goN (Base.pin2_ok hB) s7_ok rfl rfl (by simp [conj]) ?_
  refine run_cond rfl (fun hm0 => ?_) (fun hm0 => ?_)
  · have hm0 : 0 < m' := by simp at hm0; omega
    refine goN (Base.pin2_ok hB) s7_ok rfl rfl (by simp [conj]; omega) ?_
    obtain ⟨k, k1, k2, k3, k4⟩ := hord.first hm0
    have e0 : e' (0 + Int.toNat 0) = allR c k := k2
    refine run_yield 7 rfl rfl (by simp [conj]) rfl rfl rfl ?_
    refine goN (Base.pin2_ok hB) s7_ok rfl rfl (by simp [conj]) ?_
    refine run_begin 7 rfl rfl rfl rfl ?_
    refine goN (Base.pin2_ok hB) s7_ok rfl rfl (by simp [conj]) ?_
    refine run_round 7 (.ret _) rfl rfl rfl rfl ?_
    refine goN (Base.pin2_ok hB) s7_ok rfl rfl (by simp [conj]) ?_
    refine run_inR [] (.inl rfl) trivial rfl rfl (by simp [conj]) ?_
    refine run_endR 7 rfl rfl (by decide) rfl ?_
    exact run_retMC ((More.refl B).pin2 hpin (by omega)) hpin ((k : Int), 0) (.inr (.inr ⟨hz.1, k, k1, k3, k4, rfl⟩)) [6] [0] (.inr ⟨_, rfl⟩) ⟨rfl, rfl, trivial⟩ rfl rfl rfl (by simp [conj]) rfl (by simp only [e0]; simp [conj, ren_ck, less_rfl, allR])
  · have hm0 : m' = 0 := by simp at hm0; omega
    subst hm0
    have huse : ∀ i, i < n → (c i).use = false := by
      intro i hi
      obtain ⟨f, ⟨φ, _, _, q3⟩, _⟩ := hord
      cases hu : (c i).use with
      | false => rfl
      | true => obtain ⟨q, q1, _⟩ := q3 i hi hu; omega
    refine goN (Base.pin2_ok hB) s7_ok rfl rfl (by simp [conj]) ?_
    refine run_inR [] (.inl rfl) trivial rfl rfl (by simp [conj]) ?_
    refine run_endR 7 rfl rfl (by decide) rfl ?_
    refine goN (Base.pin2_ok hB) s7_ok rfl rfl (by simp [conj]) ?_
    exact run_retMC ((More.refl B).pin2 hpin (by omega)) hpin (0, 9) (.inr (.inl ⟨hz.1, huse, rfl⟩)) [6] [0] (.inr ⟨_, rfl⟩) ⟨rfl, rfl, trivial⟩ rfl rfl rfl (by simp [conj]) rfl (by simp [conj, ren_ck, less_rfl])
end Sx
