/- VictimChooses: its call gives true, for a row of any number of candidates. Conditions: none. -/
import Derived.Test.YtpjabkjacldgcaaVr
namespace Sx
open Go Go.Proofs
/-- The answer is true and nothing is left. -/
abbrev ttOut : Unit → Out := fun _ => ⟨.tt, [], 1⟩
theorem Rank.first {n m : Nat} {c : Nat → Cd} {o : Nat → Nat} (h : Rank n c m o) (hv : ∀ i, i < n → (c i).ok = true) {k : Nat} (hk : k < n) (hu : (c k).use = true)
    (hb : ∀ i, i < n → (c i).use = true → i ≠ k → lt (allR c k) (allR c i)) : 0 < m ∧ o 0 = k := by
  obtain ⟨a, a1, a2⟩ := h.all k hk hu
  refine ⟨by omega, ?_⟩
  by_cases e : a = 0
  · rw [← e]; exact a2
  · exfalso
    have h1 := h.so 0 a (by omega) a1
    have h2 := h.use 0 (by omega)
    rw [a2] at h1
    by_cases e3 : o 0 = k
    · rw [e3] at h1; exact lt_irrefl _ h1
    · exact lt_asymm (h.good hv (a := 0) (by omega)) ⟨hv k hk, hu⟩ h1 (hb _ h2.1 h2.2 e3)
theorem chooses_hc (off n : Nat) (c : Nat → Cd) :
    HC Try.prog 3 [.sq 0 off 0 4 n .no] [] (candH off n c) 1 (fun _ : Unit => True) ttOut := by
  refine hc_of_run Try.func3 rfl (fun B hB hpin => ?_)
  refine goN hB s10_ok rfl rfl (by simp [conj]) ?_
  refine run_cond rfl (fun h => ?_) (fun h => ?_)
  · refine goN hB s10_ok rfl rfl (by simp [conj]) ?_
    exact run_retC hpin () trivial [0] rfl rfl (by simp [conj]) rfl (by simp [conj, ren_ck, less_rfl])
  have hn : n ≤ 30 := by simp at h; omega
  refine goN hB s10_ok rfl rfl (by simp [conj]) ?_
  refine run_callC (choose_hc off n c (by show n ≤ 39; omega)) named hB [0] rfl rfl rfl rfl (by simp [conj]) (by simp [conj, ren_ck, less_rfl]) ?_
  intro z hz
  refine ⟨show 1 ≤ 1 by omega, _, _, _, rfl, rfl, rfl, ?_⟩
  refine goN hB s10_ok rfl rfl (by simp [conj]) ?_
  refine run_callC (reforder_hc off n c (by omega)) named hB [0] rfl rfl rfl rfl (by simp [conj]) (by simp [conj, ren_ck, less_rfl]) ?_
  rintro (_ | ⟨m, o⟩) hr
  · have hr : ∃ i, i < n ∧ (c i).ok = false := hr
    have hz : z = (0, 2) := by
      rcases hz with ⟨_, hz⟩ | ⟨hz, _⟩ | ⟨hz, _⟩
      · exact hz
      · obtain ⟨i, i1, i2⟩ := hr; rw [hz i i1] at i2; cases i2
      · obtain ⟨i, i1, i2⟩ := hr; rw [hz i i1] at i2; cases i2
    subst hz
    refine ⟨show 1 ≤ 2 by omega, _, _, _, rfl, rfl, rfl, ?_⟩
    refine goN hB s10_ok rfl rfl (by simp [conj]) ?_
    refine run_condT rfl (by simp) ?_
    refine goN hB s10_ok rfl rfl (by simp [conj]) ?_
    exact run_retC hpin () trivial [0] rfl rfl (by simp [conj]) rfl (by simp [conj, ren_ck, less_rfl])
  obtain ⟨hv, hr⟩ : (∀ i, i < n → (c i).ok = true) ∧ Rank n c m o := hr
  refine ⟨show 1 ≤ 2 by omega, _, _, _, rfl, rfl, rfl, ?_⟩
  refine goN hB s10_ok rfl rfl (by simp [conj]) ?_
  refine run_condF rfl (by simp) ?_
  refine goN hB s10_ok rfl rfl (by simp [conj]) ?_
  rcases hz with ⟨⟨i, i1, i2⟩, hz⟩ | ⟨_, hu, rfl⟩ | ⟨_, k, k1, k2, k3, rfl⟩
  · rw [hv i i1] at i2; cases i2
  · have hm : m = 0 := by
      by_cases e : m = 0
      · exact e
      · have := hr.use 0 (by omega)
        rw [hu _ this.1] at this; cases this.2
    subst hm
    refine run_condT rfl (by simp) ?_
    refine goN hB s10_ok rfl rfl (by simp [conj]) ?_
    exact run_retC hpin () trivial [0] rfl rfl (by simp [conj]) rfl (by simp [conj, ren_ck, less_rfl])
  · obtain ⟨hm, ho⟩ := hr.first hv k1 k2 k3
    refine run_condF rfl (by simp; omega) ?_
    refine goN hB s10_ok rfl rfl (by simp [conj]; omega) ?_
    exact run_retC hpin () trivial [0] rfl rfl (by simp [conj]) rfl (by simp [conj, ren_ck, less_rfl, ho])
end Sx
