/- partitionOrdered parts. Conditions: as each theorem says. -/
import Derived.Test.YtlpbmlfejiaamaaNsd
set_option linter.unusedSimpArgs false
set_option linter.unusedVariables false
namespace Sx
open Go Go.Proofs
set_option maxRecDepth 100000
/-- Parted at m. -/
def Part (a b m : Nat) (d : Dt) : Prop := (∀ k, a ≤ k → k < m → d k ≤ d m) ∧ ∀ k, m < k → k < b → d m ≤ d k
/-- Under way: the key to part by lies at a. -/
structure PInv (a b i j : Nat) (d e : Dt) : Prop where
  sw : SW a b d e
  ai : a < i
  jb : j < b
  ij : i ≤ j + 1
  lo : ∀ k, a < k → k < i → e k ≤ e a
  hi : ∀ k, j < k → k < b → e a ≤ e k
theorem PInv.incI {a b i j : Nat} {d e : Dt} (h : PInv a b i j d e) (hij : i ≤ j) (hl : e i < e a) : PInv a b (i + 1) j d e :=
  ⟨h.sw, by have := h.ai; omega, h.jb, by omega, fun k h1 h2 => by
    by_cases e1 : k = i
    · subst e1; omega
    · exact h.lo k h1 (by omega), h.hi⟩
theorem PInv.decJ {a b i j : Nat} {d e : Dt} (h : PInv a b i j d e) (hij : i ≤ j) (hl : ¬ e j < e a) : PInv a b i (j - 1) d e :=
  ⟨h.sw, h.ai, by have := h.jb; omega, by have := h.ai; omega, h.lo, fun k h1 h2 => by
    by_cases e1 : k = j
    · subst e1; omega
    · exact h.hi k (by have := h.ai; omega) h2⟩
theorem PInv.swap {a b i j : Nat} {d e : Dt} (h : PInv a b i j d e) (hij : i ≤ j) (h1 : ¬ e i < e a) (h2 : e j < e a) : PInv a b (i + 1) (j - 1) d (swp e i j) := by
  have hne : i ≠ j := fun q => h1 (by rw [q]; exact h2)
  have ai := h.ai
  have jb := h.jb
  refine ⟨.step i j h.sw (by omega) (by omega) (by omega) (by omega), by omega, by omega, by omega, fun k g1 g2 => ?_, fun k g1 g2 => ?_⟩
  · unfold swp
    rw [if_neg (show ¬ a = i by omega), if_neg (show ¬ a = j by omega)]
    by_cases e1 : k = i
    · rw [if_pos e1]; omega
    · rw [if_neg e1, if_neg (by omega)]; exact h.lo k g1 (by omega)
  · unfold swp
    rw [if_neg (show ¬ a = i by omega), if_neg (show ¬ a = j by omega)]
    by_cases e1 : k = j
    · rw [if_neg (by omega), if_pos e1]; omega
    · rw [if_neg (by omega), if_neg e1]; exact h.hi k (by omega) g2
theorem PInv.done {a b i j : Nat} {d e : Dt} (h : PInv a b i j d e) (hij : j < i) : SW a b d (swp e j a) ∧ a ≤ j ∧ j < b ∧ Part a b j (swp e j a) := by
  have ai := h.ai
  have jb := h.jb
  have hj := h.ij
  refine ⟨.step j a h.sw (by omega) jb (Nat.le_refl _) (by omega), by omega, jb, fun k g1 g2 => ?_, fun k g1 g2 => ?_⟩
  · unfold swp
    rw [if_pos (show j = j from rfl), if_neg (show ¬ k = j by omega)]
    by_cases e1 : k = a
    · rw [if_pos e1]; exact h.lo j (by omega) (by omega)
    · rw [if_neg e1]; exact h.lo k (by omega) (by omega)
  · unfold swp
    rw [if_pos (show j = j from rfl), if_neg (show ¬ k = j by omega), if_neg (by omega)]
    exact h.hi k g1 g2
set_option maxHeartbeats 4000000 in
theorem partition_hc (n cap a b p : Nat) (hab : a + 12 < b) (hb : b ≤ n) (hn : n < 1000000) (hp : a ≤ p) (hpb : p < b) (d : Dt) :
    HC Try.prog 97 [.sq 0 0 0 1 n .no, i64 a, i64 b, i64 p] (rowD n cap d) [] 1 (fun z : Nat × Bool × Dt => SW a b d z.2.2 ∧ a ≤ z.1 ∧ z.1 < b ∧ Part a b z.1 z.2.2) (fun z => ⟨.tup [i64 z.1, .sb z.2.1], rowD n cap z.2.2, 1⟩) := by
  refine hc_of_run Try.func97 rfl (fun B hB hpin => ?_)
  refine goS hB rfl rfl (by simp [conj, Fits_i64]; omega) ?_
  have a0 : 0 + ((a : Nat) : Int).toNat = a := by omega
  have p0 : 0 + ((p : Nat) : Int).toNat = p := by omega
  rw [a0, p0]
  have hP0 : PInv a b (a + 1) (b - 1) d (swp d a p) := ⟨.step a p .refl (Nat.le_refl _) (by omega) hp hpb, by omega, by omega, by omega, fun k h1 h2 => by omega, fun k h1 h2 => by omega⟩
  refine run_loop ?_
  refine run_inv (ι := Nat) hpin (fun i => PInv a b i (b - 1) d (swp d a p)) (fun i => b - i) (fun i => [(10, i64 i), (11, i64 (b - 1 : Nat)), (0, .sq 0 0 0 1 n .no), (1, i64 a)]) (fun _ => []) (fun _ => rowD n cap (swp d a p)) 1 (a + 1) hP0
    [0] rfl rfl (by
      simp [conj, less_rfl, ren_fnr, renR_fnr]
      exact ⟨by omega, fun k _ => Less.of (swp_upd d a p k).symm⟩) ?_
  clear hP0
  generalize swp d a p = e
  intro i hP ih
  have ai := hP.ai
  have ij := hP.ij
  refine goS hB rfl rfl (by simp [conj, Fits_i64]; omega) ?_
  have i0 : 0 + ((i : Nat) : Int).toNat = i := by omega
  rw [i0, a0]
  refine run_cond rfl (fun hc => ?_) (fun hc => ?_)
  · have ⟨c1, c2⟩ : i ≤ b - 1 ∧ e i < e a := by
      rw [Bool.and_eq_true, decide_eq_true_iff, decide_eq_true_iff] at hc
      exact ⟨by have := hc.1; omega, hc.2⟩
    have ih := ih (i + 1) (hP.incI c1 c2) (by omega)
    refine goS hB rfl rfl (by simp [conj, Fits_i64]; omega) ?_
    refine run_back ?_
    refine run_to hpin [0] rfl rfl ?_ ih
    clear ih
    simp [conj, less_rfl, ren_fnr, renR_fnr]
  clear ih
  have hni : i ≤ b - 1 → ¬ e i < e a := fun c1 c2 => by
    have : (decide ((i : Int) ≤ ((b - 1 : Nat) : Int)) && decide (e i < e a)) = true := by simp [c2]; omega
    rw [this] at hc; cases hc
  clear hc
  refine goS hB rfl rfl (by simp [conj]) ?_
  refine run_loop ?_
  refine run_inv (ι := Nat) hpin (fun j => PInv a b i j d e) (fun j => j) (fun j => [(10, i64 i), (11, i64 j), (0, .sq 0 0 0 1 n .no), (1, i64 a)]) (fun _ => []) (fun _ => rowD n cap e) 1 (b - 1) hP
    [0] rfl rfl (by simp [conj, less_rfl, ren_fnr, renR_fnr]) ?_
  clear hP ij
  intro j hP ih
  have ij := hP.ij
  have jb := hP.jb
  refine goS hB rfl rfl (by simp [conj, Fits_i64]; omega) ?_
  have j0 : 0 + ((j : Nat) : Int).toNat = j := by omega
  rw [j0, a0]
  refine run_cond rfl (fun hc => ?_) (fun hc => ?_)
  · have ⟨c1, c2⟩ : i ≤ j ∧ ¬ e j < e a := by
      simp at hc
      exact ⟨by omega, by omega⟩
    have ih := ih (j - 1) (hP.decJ c1 c2) (by omega)
    refine goS hB rfl rfl (by simp [conj, Fits_i64]; omega) ?_
    refine run_back ?_
    refine run_to hpin [0] rfl rfl ?_ ih
    clear ih
    simp [conj, less_rfl, ren_fnr, renR_fnr]
    omega
  clear ih
  have hnj : i ≤ j → e j < e a := fun c1 => by
    simp at hc
    have := hc c1
    omega
  clear hc
  refine goS hB rfl rfl (by simp [conj]) ?_
  refine run_cond rfl (fun hc => ?_) (fun hc => ?_)
  · have hji : j < i := by simp at hc; omega
    obtain ⟨d1, d2, d3, d4⟩ := hP.done hji
    refine goS hB rfl rfl (by simp [conj, Fits_i64]; omega) ?_
    rw [j0, a0]
    refine run_retC hpin (j, true, swp e j a) ⟨d1, d2, d3, d4⟩ [0] rfl rfl (by simp [conj]) rfl ?_
    simp [conj, less_rfl, ren_fnr, renR_fnr]
    exact fun k _ => Less.of (swp_upd e j a k).symm
  have hij : i ≤ j := by simp at hc; omega
  have hP := hP.swap hij (hni (by omega)) (hnj hij)
  refine goS hB rfl rfl (by simp [conj, Fits_i64]; omega) ?_
  rw [i0, j0]
  refine run_loop ?_
  refine run_inv (ι := Nat × Nat × Dt) hpin (fun z => PInv a b z.1 z.2.1 d z.2.2) (fun z => z.2.1 + b - z.1) (fun z => [(10, i64 z.1), (11, i64 z.2.1), (0, .sq 0 0 0 1 n .no), (1, i64 a)]) (fun _ => []) (fun z => rowD n cap z.2.2) 1 (i + 1, j - 1, swp e i j) hP
    [0] rfl rfl (by
      simp [conj, less_rfl, ren_fnr, renR_fnr]
      exact ⟨by omega, fun k _ => Less.of (swp_upd e i j k).symm⟩) ?_
  clear hP hni hnj hij hc ij jb ai i0 j0
  rintro ⟨i1, j1, f⟩ hP3 ih3
  have hP3 : PInv a b i1 j1 d f := hP3
  refine goS hB rfl rfl conj_nil ?_
  refine run_loop ?_
  refine run_inv (ι := Nat) hpin (fun i => PInv a b i j1 d f ∧ i1 ≤ i) (fun i => b - i) (fun i => [(10, i64 i), (11, i64 j1), (0, .sq 0 0 0 1 n .no), (1, i64 a)]) (fun _ => []) (fun _ => rowD n cap f) 1 i1 ⟨hP3, Nat.le_refl _⟩
    [0] rfl rfl (by simp [conj, less_rfl, ren_fnr, renR_fnr]) ?_
  clear hP3
  rintro i ⟨hP, hi1⟩ ih
  have ai := hP.ai
  have ij := hP.ij
  have jb := hP.jb
  refine goS hB rfl rfl (by simp [conj, Fits_i64]; omega) ?_
  have i0 : 0 + ((i : Nat) : Int).toNat = i := by omega
  rw [i0, a0]
  refine run_cond rfl (fun hc => ?_) (fun hc => ?_)
  · clear ih3
    have ⟨c1, c2⟩ : i ≤ j1 ∧ f i < f a := by
      rw [Bool.and_eq_true, decide_eq_true_iff, decide_eq_true_iff] at hc
      exact ⟨by have := hc.1; omega, hc.2⟩
    have ih := ih (i + 1) ⟨hP.incI c1 c2, by omega⟩ (by omega)
    refine goS hB rfl rfl (by simp [conj, Fits_i64]; omega) ?_
    refine run_back ?_
    refine run_to hpin [0] rfl rfl ?_ ih
    clear ih
    simp [conj, less_rfl, ren_fnr, renR_fnr]
  clear ih
  have hni : i ≤ j1 → ¬ f i < f a := fun c1 c2 => by
    have : (decide ((i : Int) ≤ (j1 : Int)) && decide (f i < f a)) = true := by simp [c2]; omega
    rw [this] at hc; cases hc
  clear hc
  refine goS hB rfl rfl (by simp [conj]) ?_
  refine run_loop ?_
  refine run_inv (ι := Nat) hpin (fun j => PInv a b i j d f ∧ j ≤ j1) (fun j => j) (fun j => [(10, i64 i), (11, i64 j), (0, .sq 0 0 0 1 n .no), (1, i64 a)]) (fun _ => []) (fun _ => rowD n cap f) 1 j1 ⟨hP, Nat.le_refl _⟩
    [0] rfl rfl (by simp [conj, less_rfl, ren_fnr, renR_fnr]) ?_
  clear hP ij jb
  rintro j ⟨hP, hj1⟩ ih
  have ij := hP.ij
  have jb := hP.jb
  refine goS hB rfl rfl (by simp [conj, Fits_i64]; omega) ?_
  have j0 : 0 + ((j : Nat) : Int).toNat = j := by omega
  rw [j0, a0]
  refine run_cond rfl (fun hc => ?_) (fun hc => ?_)
  · clear ih3
    have ⟨c1, c2⟩ : i ≤ j ∧ ¬ f j < f a := by
      simp at hc
      exact ⟨by omega, by omega⟩
    have ih := ih (j - 1) ⟨hP.decJ c1 c2, by omega⟩ (by omega)
    refine goS hB rfl rfl (by simp [conj, Fits_i64]; omega) ?_
    refine run_back ?_
    refine run_to hpin [0] rfl rfl ?_ ih
    clear ih
    simp [conj, less_rfl, ren_fnr, renR_fnr]
    omega
  clear ih
  have hnj : i ≤ j → f j < f a := fun c1 => by
    simp at hc
    have := hc c1
    omega
  clear hc
  refine goS hB rfl rfl (by simp [conj]) ?_
  refine run_cond rfl (fun hc => ?_) (fun hc => ?_)
  · clear ih3
    have hji : j < i := by simp at hc; omega
    obtain ⟨d1, d2, d3, d4⟩ := hP.done hji
    refine goS hB rfl rfl (by simp [conj, Fits_i64]; omega) ?_
    rw [j0, a0]
    refine run_retC hpin (j, false, swp f j a) ⟨d1, d2, d3, d4⟩ [0] rfl rfl (by simp [conj]) rfl ?_
    simp [conj, less_rfl, ren_fnr, renR_fnr]
    exact fun k _ => Less.of (swp_upd f j a k).symm
  have hij : i ≤ j := by simp at hc; omega
  have hP := hP.swap hij (hni (by omega)) (hnj hij)
  have ih3 := ih3 (i + 1, j - 1, swp f i j) hP (by show j - 1 + b - (i + 1) < j1 + b - i1; omega)
  refine goS hB rfl rfl (by simp [conj, Fits_i64]; omega) ?_
  rw [i0, j0]
  refine run_back ?_
  refine run_to hpin [0] rfl rfl ?_ ih3
  clear ih3
  simp [conj, less_rfl, ren_fnr, renR_fnr]
  exact ⟨by omega, fun k _ => Less.of (swp_upd f i j k).symm⟩
end Sx
