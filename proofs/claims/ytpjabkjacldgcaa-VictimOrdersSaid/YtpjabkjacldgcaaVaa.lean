/- victim.Order: what its call gives. Conditions: as the theorem says. -/
import Derived.Test.YtpjabkjacldgcaaVx
namespace Sx
open Go Go.Proofs
/-- What Order's list may be: nothing where a candidate is not valid. -/
def seqOk (n : Nat) (c : Nat → Cd) (z : Nat × (Nat → Rk)) : Prop := ((∃ i, i < n ∧ (c i).ok = false) ∧ z.1 = 0) ∨ ((∀ i, i < n → (c i).ok = true) ∧ Ord n c z.1 z.2)
def seqOut (z : Nat × (Nat → Rk)) : Out := ⟨.clo (.func 22) [] [.ptr 1 0], [(1, .cells [.sq 2 0 0 5 z.1 .own] 47), (2, .row 0 z.1 z.1 5 (rk z.2) 53)], 3⟩
theorem seq_hc (off n : Nat) (c : Nat → Cd) (hn : n ≤ maxN) :
    HC Try.prog 12 [.sq 0 off 0 4 n .no] [] (candH off n c) 1 (seqOk n c) seqOut := by
  refine hc_of_run Try.func12 rfl (fun B hB hpin => ?_)
  refine goN hB s10_ok rfl rfl (by simp [conj]) ?_
  refine run_callC (order_hc off n c hn) named hB [0] rfl rfl rfl rfl (by simp [conj]) (by simp [conj, ren_ck, less_rfl]) ?_
  rintro (_ | ⟨m, e⟩) hz
  · have hz : ∃ i, i < n ∧ (c i).ok = false := hz
    refine ⟨show 1 ≤ 2 by omega, _, _, _, rfl, rfl, rfl, ?_⟩
    refine goN hB s10_ok rfl rfl (by simp [conj]) ?_
    exact run_retC hpin (0, fun _ => ⟨⟨0, 0, 0, 0⟩, 0⟩) (.inl ⟨hz, rfl⟩) [0, 2, 30] rfl rfl (by simp [conj]) rfl (by simp [conj, ren_ck, ren_rk, less_rfl])
  have hz : (∀ i, i < n → (c i).ok = true) ∧ Ord n c m e := hz
  refine ⟨show 1 ≤ 2 by omega, _, _, _, rfl, rfl, rfl, ?_⟩
  refine goN hB s10_ok rfl rfl (by simp [conj]) ?_
  exact run_retC hpin (m, e) (.inr hz) [0, 2, 1] rfl rfl (by simp [conj]) rfl (by simp [conj, ren_ck, ren_rk, renR_rk, less_rfl])
abbrev R2 := Int × Nat × (Nat → Nat)
def rf2Ok (n : Nat) (c : Nat → Cd) (z : R2) : Prop := ((∃ i, i < n ∧ (c i).ok = false) ∧ z.2.1 = 0) ∨ ((∀ i, i < n → (c i).ok = true) ∧ Rank n c z.2.1 z.2.2)
def rf2Out (z : R2) : Out := ⟨.tup [.sq 1 0 0 1 z.2.1 .own, .int .i64 z.1], [(1, .row 0 z.2.1 z.2.1 1 (ir z.2.2) 3)], 2⟩
theorem rf2_hc (off n : Nat) (c : Nat → Cd) (hn : n ≤ 1000) :
    HC Try.prog 10 [.sq 0 off 0 4 n .no] [] (candH off n c) 1 (rf2Ok n c) rf2Out := by
  intro B β w vs hB hl hs
  refine (reforder_hc off n c hn B β w vs hB hl hs).mono ?_
  rintro e w' ⟨z, β', u, h1, h2, h3, h4, h5⟩
  rcases z with _ | ⟨m, o⟩
  · refine ⟨(2, 0, id), β', u, .inl ⟨h1, rfl⟩, h2, h3, ?_, ⟨⟨?_, ?_, h5.read, h5.old, h5.os, h5.tape, h5.output, h5.size, h5.pin⟩, h5.fresh⟩⟩
    · obtain ⟨us, rfl, u0, us1, rfl, h6, h7⟩ := h4
      have h6 : u0 = .slice none 0 0 := h6
      subst h6
      exact ⟨_, rfl, _, _, rfl, ⟨none, 0, rfl, fun _ => rfl, fun _ _ => rfl, fun h => (by cases h), fun h => absurd h (Nat.lt_irrefl 0)⟩, h7⟩
    · intro i s hi hs'
      simp only [rf2Out, hget] at hi
      cases hb : Nat.beq i 1 with
      | true => rw [hb] at hi; injection hi with hi; subst hi; exact absurd hs' (Nat.lt_irrefl 0)
      | false => rw [hb] at hi; exact (none_ne hi).elim
    · intro i j s t hi _ hs' _ _
      simp only [rf2Out, hget] at hi
      cases hb : Nat.beq i 1 with
      | true => rw [hb] at hi; injection hi with hi; subst hi; exact absurd hs' (Nat.lt_irrefl 0)
      | false => rw [hb] at hi; exact (none_ne hi).elim
  · exact ⟨(0, m, o), β', u, .inr h1, h2, h3, h4, h5⟩
/-- Order's list and the reference's are the same. -/
theorem same_list {n : Nat} {c : Nat → Cd} {z : Nat × (Nat → Rk)} {y : R2} (hz : seqOk n c z) (hy : rf2Ok n c y) : y.2.1 = z.1 ∧ ∀ a, a < z.1 → z.2 a = allR c (y.2.2 a) ∧ y.2.2 a < n := by
  rcases hz with ⟨⟨i, i1, i2⟩, h⟩ | ⟨hv, h⟩
  · rcases hy with ⟨_, g⟩ | ⟨hv, _⟩
    · exact ⟨g.trans h.symm, fun a ha => by omega⟩
    · rw [hv i i1] at i2; cases i2
  · rcases hy with ⟨⟨i, i1, i2⟩, _⟩ | ⟨_, g⟩
    · rw [hv i i1] at i2; cases i2
    · obtain ⟨o, h1, h2⟩ := h.rank
      have e := h1.len g hv
      refine ⟨e.symm, fun a ha => ?_⟩
      have := h1.same g hv a ha
      rw [h2 a ha, this.2]
      exact ⟨rfl, (g.use a (by omega)).1⟩
end Sx
