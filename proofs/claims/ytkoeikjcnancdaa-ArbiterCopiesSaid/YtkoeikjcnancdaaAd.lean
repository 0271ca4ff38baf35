/- slices.DeleteFunc. Conditions: as each theorem says. -/
import Derived.Test.YtkoeikjcnancdaaAc
set_option linter.unusedSimpArgs false
set_option linter.unusedVariables false
namespace Sx
open Go Go.Proofs
set_option maxRecDepth 100000
def keepL (s : ASt) (c : Int) (l : List Int) : List Int := l.filter fun q => decide (s.cls q = c)
theorem keep_step {p : Int → Bool} {l : List Int} {j : Nat} (hj : j < l.length) : (l.take (j + 1)).filter p = (l.take j).filter p ++ (if p l[j] then [l[j]] else []) := by
  rw [List.take_succ_eq_append_getElem hj, List.filter_append]
  simp [List.filter_cons]
def kl (s : ASt) (c : Int) (l : List Int) (j : Nat) : List Int := (l.take j).filter fun q => decide (s.cls q = c)
theorem kl_yes {s : ASt} {c : Int} {l : List Int} {j : Nat} (hj : j < l.length) (h : decide (s.cls l[j] = c) = true) : kl s c l (j + 1) = kl s c l j ++ [l[j]] := by
  unfold kl; rw [keep_step hj, h]; rfl
theorem kl_no {s : ASt} {c : Int} {l : List Int} {j : Nat} (hj : j < l.length) (h : decide (s.cls l[j] = c) = false) : kl s c l (j + 1) = kl s c l j := by
  unfold kl; rw [keep_step hj, h]; simp
theorem kl_all (s : ASt) (c : Int) (l : List Int) : kl s c l l.length = keepL s c l := by
  unfold kl keepL; rw [List.take_length]
theorem del_hc (s : ASt) (c : Int) (l : List Int) (cap : Nat) (hl : l.length < 1000000) :
    HC Try.prog 35 [.sq 4 0 0 1 l.length .no, .clo (.func 36) [] [.ptr 2 0, .ptr 3 0]] (idxH s c l cap) [] 5 (fun _ : Unit => True) (fun _ => ⟨.sq 4 0 0 1 (keepL s c l).length .no, idxH s c (keepL s c l) cap, 5⟩) := by
  refine hc_of_run Try.func35 rfl (fun B hB hpin => ?_)
  refine goK hB s1_ok rfl rfl (by simp [conj]) ?_
  refine run_callC (idx_hc 36 (.inr (.inl rfl)) s c _ (fun x => c36_hc s c x) l cap hl) named hB [0, 1, 2, 3, 4] rfl rfl rfl rfl (by simp [conj]) (by simp [conj, less_rfl, ren_nr, renR_nr]) ?_
  rintro z hz
  refine ⟨show 5 ≤ 5 by omega, _, _, _, rfl, rfl, rfl, ?_⟩
  refine goK hB s1_ok rfl rfl (by simp [conj]) ?_
  rcases hz with ⟨rfl, hz⟩ | ⟨i, hi, rfl, h1, h2⟩
  · refine run_condT rfl (by decide) ?_
    have hk : keepL s c l = l := by
      unfold keepL
      rw [List.filter_eq_self]
      intro x hx
      have := hz x hx
      simpa using this
    refine goK hB s1_ok rfl rfl (by simp [conj]) ?_
    refine run_retC hpin () trivial [0, 1, 2, 3, 4] rfl rfl (by simp [conj]) rfl ?_
    rw [hk]
    simp [conj, less_rfl, ren_nr, renR_nr]
  refine run_condF rfl (by simp) ?_
  have hk0 : kl s c l (i + 1) = l.take i := by
    unfold kl
    rw [keep_step hi]
    have e1 : decide (s.cls l[i] = c) = false := by simpa using h1
    rw [e1, List.filter_eq_self.2]
    · simp
    · intro x hx
      obtain ⟨j, hj, rfl⟩ := List.mem_iff_getElem.1 hx
      have hj' : j < i := by simp at hj; omega
      have := h2 j hj'
      simpa using this
  refine goK hB s1_ok rfl rfl (by simp [conj, Fits_i64]; omega) ?_
  refine run_loop ?_
  refine run_inv (ι := Nat × (Nat → Int)) hpin (fun x => i + 1 ≤ x.1 ∧ x.1 ≤ l.length ∧ (kl s c l x.1).length < x.1 ∧ (∀ m, m < (kl s c l x.1).length → x.2 m = lg (kl s c l x.1) m) ∧ ∀ m, x.1 ≤ m → m < l.length → x.2 m = lg l m) (fun x => l.length - x.1)
    (fun x => [(0, .sq 4 0 0 1 l.length .no), (1, .clo (.func 36) [] [.ptr 2 0, .ptr 3 0]), (5, i64 (kl s c l x.1).length), (6, i64 x.1)]) (fun _ => []) (fun x => clH s c ++ [(4, .row 0 l.length cap 1 (nr .i64 x.2) 3)]) 5 (i + 1, lg l)
    ⟨Nat.le_refl _, by show i + 1 ≤ l.length; omega, by simp only [hk0, List.length_take]; omega, fun m hm => by
      simp only [hk0] at hm ⊢
      simp at hm
      simp [lg, show m < i by omega], fun m _ _ => rfl⟩
    [0, 1, 2, 3, 4] rfl rfl (by simp [conj, less_rfl, ren_nr, renR_nr, hk0]; omega) ?_
  rintro ⟨j, d⟩ ⟨k1, k2, k3, k4, k5⟩ ih
  simp only at k1 k2 k3 k4 k5
  refine goK hB s1_ok rfl rfl (by simp [conj]) ?_
  refine run_cond rfl (fun h => ?_) (fun h => ?_)
  · have hj : j < l.length := by simpa using h
    have hdj : d j = l[j] := by rw [k5 j (Nat.le_refl _) hj, lg_get hj]
    refine goK hB s1_ok rfl rfl (by simp [conj, hj]) ?_
    refine run_callC (c36_hc s c l[j]) named hB [0, 1, 2, 3] rfl rfl rfl rfl (by simp [conj]) (by simp [conj, less_rfl, hdj]) ?_
    rintro ⟨⟩ _
    refine ⟨show 4 ≤ 4 by omega, _, _, _, rfl, rfl, rfl, ?_⟩
    refine goK hB s1_ok rfl rfl (by simp [conj]) ?_
    refine run_cond rfl (fun hq => ?_) (fun hq => ?_)
    · have hq : decide (s.cls l[j] = c) = true := by simpa using hq
      have hs := kl_yes hj hq
      have hle : (kl s c l (j + 1)).length = (kl s c l j).length + 1 := by rw [hs]; simp
      have ih := ih (j + 1, fun m => if m = (kl s c l j).length then l[j] else d m) ⟨by show i + 1 ≤ j + 1; omega, by show j + 1 ≤ l.length; omega, by show (kl s c l (j + 1)).length < j + 1; omega, fun m hm => by
          simp only at hm ⊢
          rw [hs]
          rw [hle] at hm
          by_cases e : m = (kl s c l j).length
          · subst e; simp [lg]
          · rw [if_neg e, k4 m (by omega)]
            simp [lg, show m < (kl s c l j).length by omega, List.getElem?_append_left (show m < (kl s c l j).length by omega)], fun m h1 h2 => by
          simp only at h1 ⊢
          rw [if_neg (by omega)]; exact k5 m (by omega) h2⟩ (by show l.length - (j + 1) < l.length - j; omega)
      refine goK hB s1_ok rfl rfl (by simp [conj, Fits_i64]; omega) ?_
      refine run_back ?_
      refine run_to hpin [0, 1, 2, 3, 4] rfl rfl ?_ ih
      clear ih
      simp [conj, less_rfl, ren_nr, renR_nr, updF_nr, hle, hdj]
    · have hq : decide (s.cls l[j] = c) = false := by simpa using hq
      have hs := kl_no hj hq
      have ih := ih (j + 1, d) ⟨by show i + 1 ≤ j + 1; omega, by show j + 1 ≤ l.length; omega, by show (kl s c l (j + 1)).length < j + 1; rw [hs]; omega, fun m hm => by
          simp only at hm ⊢
          rw [hs] at hm ⊢
          exact k4 m hm, fun m h1 h2 => k5 m (by simp only at h1; omega) h2⟩ (by show l.length - (j + 1) < l.length - j; omega)
      refine goK hB s1_ok rfl rfl (by simp [conj, Fits_i64]; omega) ?_
      refine run_back ?_
      refine run_to hpin [0, 1, 2, 3, 4] rfl rfl ?_ ih
      clear ih
      simp [conj, less_rfl, ren_nr, renR_nr, updF_nr, hs]
  · have hj : j = l.length := by simp at h; omega
    subst hj
    clear ih
    have ha := kl_all s c l
    refine goK hB s1_ok rfl rfl (by simp [conj]; omega) ?_
    refine run_clr rfl rfl (by simp [conj]) rfl (by dsimp only; omega) (by omega) rfl rfl ?_
    refine goK hB s1_ok rfl rfl (by simp [conj]; omega) ?_
    refine run_retC hpin () trivial [0, 1, 2, 3, 4] rfl rfl (by simp [conj]) rfl ?_
    rw [ha] at k3 k4 ⊢
    simp [conj, less_rfl, ren_nr, renR_nr]
    refine ⟨⟨by omega, fun h => by omega⟩, fun i hi => Less.of ?_⟩
    unfold clrF
    rw [if_neg (by omega)]
    simp only [nr]
    rw [k4 i hi]
end Sx
