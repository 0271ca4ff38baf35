/- The reference: Sector, At, without. Conditions: as each theorem says. -/
import Derived.Test.YtdphonnleoklgaaMj
set_option linter.unusedSimpArgs false
set_option linter.unusedVariables false
namespace Sx
open Go Go.Proofs
set_option maxRecDepth 100000
abbrev refM (S Bk P : Int) (r n : Nat) (ap : Ap) : SV := .agg [i64 S, i64 Bk, i64 P, .sq r 0 0 2 n ap]
abbrev rfL (S Bk P : Int) (r n : Nat) (ap : Ap) : List SV := [i64 S, i64 Bk, i64 P, .sq r 0 0 2 n ap]
abbrev rowH (L : Ld) (cap : Nat) : Hp := [(0, .row 0 L.length cap 2 (ldr L) anyTy)]
theorem find_first {f : Int × Int → Bool} {L : Ld} {i : Nat} (hi : i < L.length) (h1 : ∀ j (hj : j < L.length), j < i → f L[j] = false) (h2 : f L[i] = true) : L.find? f = some L[i] :=
  List.find?_eq_some_iff_getElem.2 ⟨h2, i, hi, rfl, fun j hj => by rw [h1 j (by omega) hj]; rfl⟩
theorem hasP_false {L : Ld} {p : Int} (h : ∀ j (hj : j < L.length), j < L.length → decide (L[j].2 = p) = false) : hasP L p = false := by
  cases hb : hasP L p with
  | false => rfl
  | true =>
    obtain ⟨x, hx, e⟩ := hasP_iff.1 hb
    obtain ⟨j, hj, rfl⟩ := List.mem_iff_getElem.1 hx
    have := h j hj hj
    simp [e] at this
theorem hasS_false {L : Ld} {p : Int} (h : ∀ j (hj : j < L.length), j < L.length → decide (L[j].1 = p) = false) : hasS L p = false := by
  cases hb : hasS L p with
  | false => rfl
  | true =>
    obtain ⟨x, hx, e⟩ := hasS_iff.1 hb
    obtain ⟨j, hj, rfl⟩ := List.mem_iff_getElem.1 hx
    have := h j hj hj
    simp [e] at this
set_option maxHeartbeats 2000000 in
theorem secR_hc (S Bk P : Int) (L : Ld) (cap : Nat) (hn : L.length < 100000) (p : Int) : HC Try.prog 28 [refM S Bk P 0 L.length .no, i64 p] [] (rowH L cap) 1 (fun _ : Unit => True) (fun _ => ⟨.tup [i64 (bif hasP L p then scP L p else 0), .sb (hasP L p)], [], 1⟩) := by
  refine hc_of_run Try.func28 rfl (fun B hB hpin => ?_)
  refine goH hB rfl rfl (by simp [conj]) ?_
  refine run_loop ?_
  refine run_inv (ι := Nat) hpin (fun i => i ≤ L.length ∧ ∀ j (hj : j < L.length), j < i → decide (L[j].2 = p) = false) (fun i => L.length - i)
    (fun i => [(6, i64 i), (1, i64 p), (2, .ptr 1 0)]) (fun _ => []) (fun _ => [(1, .cells (rfL S Bk P 0 L.length .no) 38)]) 2 0 ⟨Nat.zero_le _, fun j hj h => absurd h (Nat.not_lt_zero _)⟩
    [0, 1] rfl rfl (by simp [conj, less_rfl, ren_ldr]) ?_
  rintro i ⟨h1, h2⟩ ih
  refine goH hB rfl rfl (by simp [conj]) ?_
  refine run_cond rfl (fun h => ?_) (fun h => ?_)
  · have hi : i < L.length := by simpa using h
    refine goH hB rfl rfl (by simp [conj, hi]) ?_
    refine run_cond rfl (fun hq => ?_) (fun hq => ?_)
    · clear ih
      have hq : L[i].2 = p := by simpa [hi] using hq
      have e1 : hasP L p = true := hasP_iff.2 ⟨L[i], List.getElem_mem hi, hq⟩
      have e2 : scP L p = L[i].1 := by
        unfold scP
        rw [find_first hi h2 (by simpa using hq)]
      refine goH hB rfl rfl (by simp [conj, hi]) ?_
      refine run_retC hpin () trivial [0] rfl rfl (by simp [conj]) rfl ?_
      simp [conj, less_rfl, ren_ldr, e1, e2, hi]
    · have hq : L[i].2 ≠ p := by simpa [hi] using hq
      have ih := ih (i + 1) ⟨by omega, fun j hj hji => by
        rcases Nat.lt_or_ge j i with q | q
        · exact h2 j hj q
        · have : j = i := by omega
          subst this; simpa using hq⟩ (by omega)
      refine goH hB rfl rfl (by simp [conj, Fits_i64]; omega) ?_
      refine run_back ?_
      refine run_to hpin [0, 1] rfl rfl ?_ ih
      clear ih
      simp [conj, less_rfl, ren_ldr]
  · clear ih
    have : i = L.length := by simp at h; omega
    subst this
    have e1 := hasP_false h2
    refine goH hB rfl rfl (by simp [conj]) ?_
    refine run_retC hpin () trivial [0] rfl rfl (by simp [conj]) rfl ?_
    simp [conj, less_rfl, ren_ldr, e1]
set_option maxHeartbeats 2000000 in
theorem atR_hc (S Bk P : Int) (L : Ld) (cap : Nat) (hn : L.length < 100000) (p : Int) : HC Try.prog 31 [refM S Bk P 0 L.length .no, i64 p] [] (rowH L cap) 1 (fun _ : Unit => True) (fun _ => ⟨.tup [i64 (bif hasS L p then pgS L p else 0), .sb (hasS L p)], [], 1⟩) := by
  refine hc_of_run Try.func31 rfl (fun B hB hpin => ?_)
  refine goH hB rfl rfl (by simp [conj]) ?_
  refine run_loop ?_
  refine run_inv (ι := Nat) hpin (fun i => i ≤ L.length ∧ ∀ j (hj : j < L.length), j < i → decide (L[j].1 = p) = false) (fun i => L.length - i)
    (fun i => [(6, i64 i), (1, i64 p), (2, .ptr 1 0)]) (fun _ => []) (fun _ => [(1, .cells (rfL S Bk P 0 L.length .no) 38)]) 2 0 ⟨Nat.zero_le _, fun j hj h => absurd h (Nat.not_lt_zero _)⟩
    [0, 1] rfl rfl (by simp [conj, less_rfl, ren_ldr]) ?_
  rintro i ⟨h1, h2⟩ ih
  refine goH hB rfl rfl (by simp [conj]) ?_
  refine run_cond rfl (fun h => ?_) (fun h => ?_)
  · have hi : i < L.length := by simpa using h
    refine goH hB rfl rfl (by simp [conj, hi]) ?_
    refine run_cond rfl (fun hq => ?_) (fun hq => ?_)
    · clear ih
      have hq : L[i].1 = p := by simpa [hi] using hq
      have e1 : hasS L p = true := hasS_iff.2 ⟨L[i], List.getElem_mem hi, hq⟩
      have e2 : pgS L p = L[i].2 := by
        unfold pgS
        rw [find_first hi h2 (by simpa using hq)]
      refine goH hB rfl rfl (by simp [conj, hi]) ?_
      refine run_retC hpin () trivial [0] rfl rfl (by simp [conj]) rfl ?_
      simp [conj, less_rfl, ren_ldr, e1, e2, hi]
    · have hq : L[i].1 ≠ p := by simpa [hi] using hq
      have ih := ih (i + 1) ⟨by omega, fun j hj hji => by
        rcases Nat.lt_or_ge j i with q | q
        · exact h2 j hj q
        · have : j = i := by omega
          subst this; simpa using hq⟩ (by omega)
      refine goH hB rfl rfl (by simp [conj, Fits_i64]; omega) ?_
      refine run_back ?_
      refine run_to hpin [0, 1] rfl rfl ?_ ih
      clear ih
      simp [conj, less_rfl, ren_ldr]
  · clear ih
    have : i = L.length := by simp at h; omega
    subst this
    have e1 := hasS_false h2
    refine goH hB rfl rfl (by simp [conj]) ?_
    refine run_retC hpin () trivial [0] rfl rfl (by simp [conj]) rfl ?_
    simp [conj, less_rfl, ren_ldr, e1]
theorem app_ldr (l : Ld) (p : Int × Int) (a b : SV) (ha : a = i64 p.1) (hb : b = i64 p.2) (i k : Nat) (hi : i < l.length + 1) (hk : k < 2) :
    ldr (l ++ [p]) i k = appF (ldr l) l.length (fun i j => [a, b][i * 2 + j]?.getD .und) i k := by
  subst ha hb
  unfold appF
  by_cases h : i < l.length
  · have hb : Nat.blt i l.length = true := by simpa [Nat.blt_eq] using h
    rw [hb, cond_true]
    simp [ldr, h, List.getElem?_append_left h]
  · have : i = l.length := by omega
    subst this
    have hb : Nat.blt l.length l.length = false := by
      cases hq : Nat.blt l.length l.length with
      | false => rfl
      | true => rw [Nat.blt_eq] at hq; omega
    rw [hb, cond_false]
    have : k = 0 ∨ k = 1 := by omega
    rcases this with rfl | rfl <;> simp [ldr]
theorem without_take {L : Ld} {s : Int} {i : Nat} (hi : i < L.length) : without (L.take (i + 1)) s = without (L.take i) s ++ if L[i].1 = s then [] else [L[i]] := by
  unfold without
  rw [List.take_succ_eq_append_getElem hi, List.filter_append]
  congr 1
  by_cases h : L[i].1 = s
  · simp [h]
  · simp [h]
theorem without_len (L : Ld) (s : Int) : (without L s).length ≤ L.length := List.length_filter_le _ _
set_option maxHeartbeats 2000000 in
theorem withoutR_hc (S Bk P : Int) (L : Ld) (cap : Nat) (hn : L.length < 100000) (s : Int) : HC Try.prog 29 [refM S Bk P 0 L.length .no, i64 s] [] (rowH L cap) 1 (fun _ : Unit => True)
    (fun _ => ⟨refM S Bk P 1 (without L s).length .own, [(1, .row 0 (without L s).length (without L s).length 2 (ldr (without L s)) 54)], 2⟩) := by
  refine hc_of_run Try.func29 rfl (fun B hB hpin => ?_)
  refine goH hB rfl rfl (by simp [conj]) ?_
  refine run_loop ?_
  refine run_inv (ι := Nat) hpin (fun i => i ≤ L.length) (fun i => L.length - i)
    (fun i => [(6, i64 i), (1, i64 s), (2, .ptr 1 0), (4, .ptr 2 0), (5, .sq 3 0 0 2 (without (L.take i) s).length .own)]) (fun _ => [])
    (fun i => [(1, .cells (rfL S Bk P 0 L.length .no) 38), (2, .cells [i64 0, i64 0, i64 0, .nilsl] 38), (3, .row 0 (without (L.take i) s).length (without (L.take i) s).length 2 (ldr (without (L.take i) s)) 54)]) 4 0 (Nat.zero_le _)
    [0, 1, 2, 3] rfl rfl (by simp [conj, less_rfl, ren_ldr, without]) ?_
  rintro i h1 ih
  have hl := without_len (L.take i) s
  simp only [List.length_take] at hl
  refine goH hB rfl rfl (by simp [conj]) ?_
  refine run_cond rfl (fun h => ?_) (fun h => ?_)
  · have hi : i < L.length := by simpa using h
    have ih := ih (i + 1) (by omega) (by omega)
    rw [without_take hi] at ih
    refine goH hB rfl rfl (by simp [conj, hi]) ?_
    refine run_cond rfl (fun hq => ?_) (fun hq => ?_)
    · have hq : L[i].1 ≠ s := by simpa [hi] using hq
      rw [if_neg hq] at ih
      refine goH hB rfl rfl ?_ ?_
      · clear ih
        simp [conj, hi, Fits_i64]
        omega
      refine run_back ?_
      refine run_to hpin [0, 1, 2, 5] rfl rfl ?_ ih
      clear ih
      simp [conj, less_rfl, ren_ldr]
      intro a k ha hk
      refine Less.of ?_
      rw [app_ldr (without (L.take i) s) L[i] (i64 L[i].1) (i64 L[i].2) rfl rfl a k ha hk]
      simp [hi]
    · have hq : L[i].1 = s := by simpa [hi] using hq
      rw [if_pos hq, List.append_nil] at ih
      refine goH hB rfl rfl (by simp [conj, Fits_i64]; omega) ?_
      refine run_back ?_
      refine run_to hpin [0, 1, 2, 3] rfl rfl ?_ ih
      clear ih
      simp [conj, less_rfl, ren_ldr]
  · clear ih
    have : i = L.length := by simp at h; omega
    subst this
    rw [List.take_length]
    refine goH hB rfl rfl (by simp [conj]) ?_
    refine run_retC hpin () trivial [0, 3] rfl rfl (by simp [conj]) rfl ?_
    simp [conj, less_rfl, ren_ldr]
end Sx
