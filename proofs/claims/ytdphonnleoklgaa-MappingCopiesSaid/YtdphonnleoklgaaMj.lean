/- same. Conditions: as each theorem says. -/
import Derived.Test.YtdphonnleoklgaaMi
set_option linter.unusedSimpArgs false
set_option linter.unusedVariables false
namespace Sx
open Go Go.Proofs
set_option maxRecDepth 100000
theorem rowEq54 : RowEq Try.prog 54 2 := by
  have hf : Try.prog.fieldsOf 54 = match Try.prog.underlying 54 with | some (.struct fs) => fs | _ => #[] := rfl
  have h : Try.prog.underlying 54 = some (.struct (Try.prog.fieldsOf 54)) := by
    rw [hf, Try.underlying54]
  refine ⟨h, by kernel_rfl, by kernel_rfl, by kernel_rfl, fun i f hi => ?_⟩
  rw [hf, Try.underlying54] at hi
  match i, hi with
  | 0, hi => injection hi with hi; subst hi; exact ⟨by decide, rfl, _, Try.underlying3⟩
  | 1, hi => injection hi with hi; subst hi; exact ⟨by decide, rfl, _, Try.underlying3⟩
  | i + 2, hi => cases hi
theorem getD_ext {X Y : Ld} (hl : X.length = Y.length) (h : ∀ i, i < X.length → X.getD i (0, 0) = Y.getD i (0, 0)) : X = Y := by
  refine List.ext_getElem hl fun i h1 h2 => ?_
  have := h i h1
  simpa [h1, h2] using this
theorem same_hc (X Y : Ld) (o1 o2 c1 c2 : Nat) (hX : X.length < 1000000) : HC Try.prog 22 [.sq 0 o1 0 2 X.length .no, .sq 1 o2 0 2 Y.length .no] [] [(0, .row o1 X.length c1 2 (ldr X) anyTy), (1, .row o2 Y.length c2 2 (ldr Y) anyTy)] 2 (fun _ : Unit => True) (fun _ => ⟨.sb (decide (X = Y)), [], 2⟩) := by
  refine hc_of_run Try.func22 rfl (fun B hB hpin => ?_)
  refine goH hB rfl rfl (by simp [conj]) ?_
  refine run_cond rfl (fun h => ?_) (fun h => ?_)
  · refine goH hB rfl rfl (by simp [conj]) ?_
    refine run_retC hpin () trivial [0, 1] rfl rfl (by simp [conj]) rfl ?_
    simp at h
    simp [conj, less_rfl, ren_ldr]
    exact fun e => h (by rw [e])
  have hl : X.length = Y.length := by simp at h; omega
  refine goH hB rfl rfl (by simp [conj]) ?_
  refine run_loop ?_
  refine run_inv (ι := Nat) hpin (fun i => i ≤ X.length ∧ ∀ j, j < i → X.getD j (0, 0) = Y.getD j (0, 0)) (fun i => X.length - i) (fun i => [(5, i64 i), (0, .sq 0 o1 0 2 X.length .no), (1, .sq 1 o2 0 2 Y.length .no), (4, .ff)]) (fun _ => []) (fun _ => []) 2 0 ⟨Nat.zero_le _, fun j hj => absurd hj (Nat.not_lt_zero _)⟩
    [0, 1] rfl rfl (by simp [conj, less_rfl, ren_ldr]) ?_
  rintro i ⟨h1, h2⟩ ih
  refine goH hB rfl rfl (by simp [conj]) ?_
  refine run_cond rfl (fun h => ?_) (fun h => ?_)
  · have hi : i < X.length := by simpa using h
    refine goH hB rfl rfl (by simp [conj, rowEq54]; omega) ?_
    refine run_cond rfl (fun hq => ?_) (fun hq => ?_)
    · clear ih
      refine goH hB rfl rfl (by simp [conj]) ?_
      refine run_retC hpin () trivial [0, 1] rfl rfl (by simp [conj]) rfl ?_
      simp [conj, less_rfl, ren_ldr]
      intro e
      subst e
      simp at hq
    · have hq' : X.getD i (0, 0) = Y.getD i (0, 0) := by
        simp at hq
        have hi2 : i < Y.length := by omega
        simp only [List.getD_eq_getElem?_getD] at hq ⊢
        exact Prod.ext hq.1 hq.2
      have ih := ih (i + 1) ⟨by omega, fun j hj => by
        rcases Nat.lt_or_ge j i with q | q
        · exact h2 j q
        · rw [show j = i by omega]; exact hq'⟩ (by omega)
      refine goH hB rfl rfl (by simp [conj, Fits_i64]; omega) ?_
      refine run_back ?_
      refine run_to hpin [0, 1] rfl rfl ?_ ih
      clear ih
      simp [conj, less_rfl, ren_ldr]
  · clear ih
    have : i = X.length := by simp at h; omega
    subst this
    have he : X = Y := getD_ext hl h2
    refine goH hB rfl rfl (by simp [conj]) ?_
    refine run_retC hpin () trivial [0, 1] rfl rfl (by simp [conj]) rfl ?_
    simp [conj, less_rfl, ren_ldr, he]
end Sx
