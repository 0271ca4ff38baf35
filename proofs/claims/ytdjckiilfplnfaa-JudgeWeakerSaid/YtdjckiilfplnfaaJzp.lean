/- Fewer constraints, more vectors: plainly. Conditions: as each theorem says. -/
import Derived.Test.YtdjckiilfplnfaaJxc
set_option linter.unusedSimpArgs false
set_option linter.unusedVariables false
namespace Sx
open Go Go.Proofs
/-- The parts P' are the parts P, less some reads, with no more constraints. -/
structure Sim (P : Nat → PT) (n : Nat) (P' : Nat → PT) (n' : Nat) (φ : Nat → Nat) : Prop where
  lt : ∀ j, j < n' → φ j < n
  inj : ∀ j k, j < n' → k < n' → φ j = φ k → j = k
  out : ∀ i, i < n → (∃ j, j < n' ∧ φ j = i) ∨ (P i).w = false
  ap : ∀ j, j < n' → ∀ l, okA (P' j) l = okA (P (φ j)) l ∧ apL (P' j) l = apL (P (φ j)) l
  d : ∀ j, j < n' → (P' j).d = (P (φ j)).d
  du : ∀ j, j < n' → (P' j).du = true → (P (φ j)).du = true
  bf : ∀ j k, j < n' → k < n' → pbf P' j k = true → pbf P (φ j) (φ k) = true
theorem sim_rch {P : Nat → PT} {n : Nat} {P' : Nat → PT} {n' : Nat} {φ : Nat → Nat} (h : Sim P n P' n' φ) (hn : n ≤ 16) (hn' : n' ≤ 16) {last : Bool} {s t : St} (g : Rch (sqOf P n last) s t) :
    s.2.length = 8 → ∀ A', (∀ j, j < n' → A'.testBit j = s.1.testBit (φ j)) → t.2.length = 8 ∧ ∃ B', (∀ j, j < n' → B'.testBit j = t.1.testBit (φ j)) ∧ Rch (sqOf P' n' last) (A', s.2) (B', t.2) := by
  induction g with
  | refl s => exact fun hl A' hA => ⟨hl, A', hA, .refl _⟩
  | step i hi hst _ ih =>
    rename_i s t _
    intro hl A' hA
    have hi : i < n := hi
    obtain ⟨hf, hok⟩ := hst
    have hok : okA (P i) s.2 = true := hok
    unfold frS at hf
    rw [Bool.and_eq_true, Bool.not_eq_true', decide_eq_true_iff] at hf
    obtain ⟨hf1, hf2⟩ := hf
    have hf2 := (andn_zero (pbf P i) n s.1 hn).1 hf2
    rcases Decidable.em (∃ j, j < n' ∧ φ j = i) with ⟨j, hj, rfl⟩ | hno
    · have hch : (chI (sqOf P n last) s (φ j)).2 = apL (P' j) s.2 := (h.ap j hj s.2).2.symm
      obtain ⟨g1, B', g2, g3⟩ := ih (by rw [hch]; exact apL_len _ _) (A' ||| 2 ^ j) (fun k hk => by
        show _ = (s.1 ||| 2 ^ (φ j)).testBit (φ k)
        rw [Nat.testBit_or, Nat.testBit_or, hA k hk]
        congr 1
        by_cases e : k = j
        · subst e; rw [Nat.testBit_two_pow_self, Nat.testBit_two_pow_self]
        · rw [Nat.testBit_two_pow_of_ne (fun q => e q.symm), Nat.testBit_two_pow_of_ne (fun q => e (h.inj j k hj hk q).symm)])
      refine ⟨g1, B', g2, .step j hj ⟨?_, ?_⟩ ?_⟩
      · unfold frS
        rw [Bool.and_eq_true, Bool.not_eq_true', decide_eq_true_iff]
        refine ⟨(hA j hj).trans hf1, (andn_zero (pbf P' j) n' A' hn').2 fun k hk hp => ?_⟩
        rw [hA k hk]
        exact hf2 (φ k) (h.lt k hk) (h.bf j k hj hk hp)
      · exact (h.ap j hj s.2).1.trans hok
      · rw [hch] at g3; exact g3
    · have hw : (P i).w = false := (h.out i hi).resolve_left hno
      have hch : (chI (sqOf P n last) s i).2 = s.2 := apL_read hl hw hok
      obtain ⟨g1, B', g2, g3⟩ := ih (by rw [hch]; exact hl) A' (fun k hk => by
        show _ = (s.1 ||| 2 ^ i).testBit (φ k)
        rw [Nat.testBit_or, hA k hk, Nat.testBit_two_pow_of_ne (fun q => hno ⟨k, hk, q.symm⟩), Bool.or_false])
      rw [hch] at g3
      exact ⟨g1, B', g2, g3⟩
theorem sim_aft {P : Nat → PT} {n : Nat} {P' : Nat → PT} {n' : Nat} {φ : Nat → Nat} (h : Sim P n P' n' φ) (hn : n ≤ 12) (hn' : n' ≤ 12) {last : Bool} {l w : List Int} (hl : l.length = 8) (g : (lget (aftL P n last l) w).isSome = true) : (lget (aftL P' n' last l) w).isSome = true := by
  obtain ⟨A, g1, ⟨⟨T, tv⟩, g2, g3⟩, g4⟩ := (aft_law P n last hn l w).1 g
  obtain ⟨h1, A', h2, h3⟩ := sim_rch h (by omega) (by omega) g1 hl 0 (fun j _ => by show (0 : Nat).testBit j = (0 : Nat).testBit (φ j); simp)
  obtain ⟨_, T', k2, k3⟩ := sim_rch h (by omega) (by omega) g2 h1 A' h2
  have mk : ∀ (C C' : Nat), (∀ j, j < n' → C'.testBit j = C.testBit (φ j)) → C &&& maskN (fun i => (P i).d) n = maskN (fun i => (P i).d) n → C' &&& maskN (fun i => (P' i).d) n' = maskN (fun i => (P' i).d) n' := fun C C' hC q => by
    rw [mask_sub] at q ⊢
    intro j hj hp
    rw [hC j hj]
    exact q (φ j) (h.lt j hj) (by rw [← h.d j hj]; exact hp)
  have mk2 : ∀ (C C' : Nat), (∀ j, j < n' → C'.testBit j = C.testBit (φ j)) → C &&& maskN (fun i => (P i).du) n = maskN (fun i => (P i).du) n → C' &&& maskN (fun i => (P' i).du) n' = maskN (fun i => (P' i).du) n' := fun C C' hC q => by
    rw [mask_sub] at q ⊢
    intro j hj hp
    rw [hC j hj]
    exact q (φ j) (h.lt j hj) (h.du j hj hp)
  refine (aft_law P' n' last hn' l w).2 ⟨A', h3, ⟨(T', tv), k3, mk T T' k2 g3⟩, ?_⟩
  unfold goodS at g4 ⊢
  have e1 : (sqOf P n last).last = last := rfl
  have e2 : (sqOf P' n' last).last = last := rfl
  rw [e1] at g4
  rw [e2]
  cases last with
  | true => rw [cond_true, decide_eq_true_iff] at g4 ⊢; exact mk A A' h2 g4
  | false => rw [cond_false, decide_eq_true_iff] at g4 ⊢; exact mk2 A A' h2 g4
theorem fs_len {H : Hi} {u : Int} (hlen : ∀ e, e ≤ H.nc → lenE H u e ≤ 12) : ∀ (e : Nat), e ≤ H.nc + 1 → ∀ v, FS H u e v → v.length = 8
  | 0, _, v, h => by have h : v = zV := h; subst h; rfl
  | e + 1, he, w, ⟨v, h1, h2⟩ => by
    obtain ⟨A, g, _⟩ := (aft_law (ptE H u e) (lenE H u e) _ (hlen e (by omega)) v w).1 h2
    have key : ∀ {s t : St}, Rch (sqOf (ptE H u e) (lenE H u e) (decide (e = H.nc))) s t → s.2.length = 8 → t.2.length = 8 := fun g => by
      induction g with
      | refl => exact id
      | step i hi hst _ ih => exact fun _ => ih (apL_len _ _)
    exact key g (fs_len hlen e (by omega) v h1)
theorem fs_mono {H H' : Hi} {u : Int} (hnc : H'.nc = H.nc) (hlen : ∀ e, e ≤ H.nc → lenE H u e ≤ 12) (hlen' : ∀ e, e ≤ H.nc → lenE H' u e ≤ 12) (hs : ∀ e, e ≤ H.nc → ∃ φ, Sim (ptE H u e) (lenE H u e) (ptE H' u e) (lenE H' u e) φ) : ∀ (e : Nat), e ≤ H.nc + 1 → ∀ v, FS H u e v → FS H' u e v
  | 0, _, _, h => h
  | e + 1, he, w, ⟨v, h1, h2⟩ => by
    obtain ⟨φ, hφ⟩ := hs e (by omega)
    refine ⟨v, fs_mono hnc hlen hlen' hs e (by omega) v h1, ?_⟩
    rw [hnc]
    exact sim_aft hφ (hlen e (by omega)) (hlen' e (by omega)) (fs_len hlen e (by omega) v h1) h2
end Sx
