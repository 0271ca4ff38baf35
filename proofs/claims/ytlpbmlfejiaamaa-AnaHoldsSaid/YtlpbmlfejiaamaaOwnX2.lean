/- Texts of this law, joined: what the functions do. Conditions: as each theorem says. -/
import Derived.Test.YtlpbmlfejiaamaaOwnX1
set_option linter.unusedSimpArgs false
set_option linter.unusedVariables false
section
/- partitionOrdered parts. Conditions: as each theorem says. -/
namespace Sx
open Go Go.Proofs
set_option maxRecDepth 100000
/-- Parted at m. -/
def Part (a b m : Nat) (d : Dt) : Prop := (∀ k, a ≤ k → k < m → d k ≤ d m) ∧ ∀ k, m < k → k < b → d m ≤ d k
/-- Under way: the key to part by lies at a. -/
structure PInv (a b i j : Nat) (d e : Dt) : Prop where
  sw : SW a b d e
  ai : a < i
  jb : j < b
  ij : i ≤ j + 1
  lo : ∀ k, a < k → k < i → e k ≤ e a
  hi : ∀ k, j < k → k < b → e a ≤ e k
theorem PInv.incI {a b i j : Nat} {d e : Dt} (h : PInv a b i j d e) (hij : i ≤ j) (hl : e i < e a) : PInv a b (i + 1) j d e :=
  ⟨h.sw, by have := h.ai; omega, h.jb, by omega, fun k h1 h2 => by
    by_cases e1 : k = i
    · subst e1; omega
    · exact h.lo k h1 (by omega), h.hi⟩
theorem PInv.decJ {a b i j : Nat} {d e : Dt} (h : PInv a b i j d e) (hij : i ≤ j) (hl : ¬ e j < e a) : PInv a b i (j - 1) d e :=
  ⟨h.sw, h.ai, by have := h.jb; omega, by have := h.ai; omega, h.lo, fun k h1 h2 => by
    by_cases e1 : k = j
    · subst e1; omega
    · exact h.hi k (by have := h.ai; omega) h2⟩
theorem PInv.swap {a b i j : Nat} {d e : Dt} (h : PInv a b i j d e) (hij : i ≤ j) (h1 : ¬ e i < e a) (h2 : e j < e a) : PInv a b (i + 1) (j - 1) d (swp e i j) := by
  have hne : i ≠ j := fun q => h1 (by rw [q]; exact h2)
  have ai := h.ai
  have jb := h.jb
  refine ⟨.step i j h.sw (by omega) (by omega) (by omega) (by omega), by omega, by omega, by omega, fun k g1 g2 => ?_, fun k g1 g2 => ?_⟩
  · unfold swp
    rw [if_neg (show ¬ a = i by omega), if_neg (show ¬ a = j by omega)]
    by_cases e1 : k = i
    · rw [if_pos e1]; omega
    · rw [if_neg e1, if_neg (by omega)]; exact h.lo k g1 (by omega)
  · unfold swp
    rw [if_neg (show ¬ a = i by omega), if_neg (show ¬ a = j by omega)]
    by_cases e1 : k = j
    · rw [if_neg (by omega), if_pos e1]; omega
    · rw [if_neg (by omega), if_neg e1]; exact h.hi k (by omega) g2
theorem PInv.done {a b i j : Nat} {d e : Dt} (h : PInv a b i j d e) (hij : j < i) : SW a b d (swp e j a) ∧ a ≤ j ∧ j < b ∧ Part a b j (swp e j a) := by
  have ai := h.ai
  have jb := h.jb
  have hj := h.ij
  refine ⟨.step j a h.sw (by omega) jb (Nat.le_refl _) (by omega), by omega, jb, fun k g1 g2 => ?_, fun k g1 g2 => ?_⟩
  · unfold swp
    rw [if_pos (show j = j from rfl), if_neg (show ¬ k = j by omega)]
    by_cases e1 : k = a
    · rw [if_pos e1]; exact h.lo j (by omega) (by omega)
    · rw [if_neg e1]; exact h.lo k (by omega) (by omega)
  · unfold swp
    rw [if_pos (show j = j from rfl), if_neg (show ¬ k = j by omega), if_neg (by omega)]
    exact h.hi k g1 g2
set_option maxHeartbeats 4000000 in
theorem partition_hc (n cap a b p : Nat) (hab : a + 12 < b) (hb : b ≤ n) (hn : n < 1000000) (hp : a ≤ p) (hpb : p < b) (d : Dt) :
    HC Try.prog 97 [.sq 0 0 0 1 n .no, i64 a, i64 b, i64 p] (rowD n cap d) [] 1 (fun z : Nat × Bool × Dt => SW a b d z.2.2 ∧ a ≤ z.1 ∧ z.1 < b ∧ Part a b z.1 z.2.2) (fun z => ⟨.tup [i64 z.1, .sb z.2.1], rowD n cap z.2.2, 1⟩) := by
  refine hc_of_run Try.func97 rfl (fun B hB hpin => ?_)
  refine goS hB rfl rfl (by simp [conj, Fits_i64]; omega) ?_
  have a0 : 0 + ((a : Nat) : Int).toNat = a := by omega
  have p0 : 0 + ((p : Nat) : Int).toNat = p := by omega
  rw [a0, p0]
  have hP0 : PInv a b (a + 1) (b - 1) d (swp d a p) := ⟨.step a p .refl (Nat.le_refl _) (by omega) hp hpb, by omega, by omega, by omega, fun k h1 h2 => by omega, fun k h1 h2 => by omega⟩
  refine run_loop ?_
  refine run_inv (ι := Nat) hpin (fun i => PInv a b i (b - 1) d (swp d a p)) (fun i => b - i) (fun i => [(10, i64 i), (11, i64 (b - 1 : Nat)), (0, .sq 0 0 0 1 n .no), (1, i64 a)]) (fun _ => []) (fun _ => rowD n cap (swp d a p)) 1 (a + 1) hP0
    [0] rfl rfl (by
      simp [conj, less_rfl, ren_fnr, renR_fnr]
      exact ⟨by omega, fun k _ => Less.of (swp_upd d a p k).symm⟩) ?_
  clear hP0
  generalize swp d a p = e
  intro i hP ih
  have ai := hP.ai
  have ij := hP.ij
  refine goS hB rfl rfl (by simp [conj, Fits_i64]; omega) ?_
  have i0 : 0 + ((i : Nat) : Int).toNat = i := by omega
  rw [i0, a0]
  refine run_cond rfl (fun hc => ?_) (fun hc => ?_)
  · have ⟨c1, c2⟩ : i ≤ b - 1 ∧ e i < e a := by
      rw [Bool.and_eq_true, decide_eq_true_iff, decide_eq_true_iff] at hc
      exact ⟨by have := hc.1; omega, hc.2⟩
    have ih := ih (i + 1) (hP.incI c1 c2) (by omega)
    refine goS hB rfl rfl (by simp [conj, Fits_i64]; omega) ?_
    refine run_back ?_
    refine run_to hpin [0] rfl rfl ?_ ih
    clear ih
    simp [conj, less_rfl, ren_fnr, renR_fnr]
  clear ih
  have hni : i ≤ b - 1 → ¬ e i < e a := fun c1 c2 => by
    have : (decide ((i : Int) ≤ ((b - 1 : Nat) : Int)) && decide (e i < e a)) = true := by simp [c2]; omega
    rw [this] at hc; cases hc
  clear hc
  refine goS hB rfl rfl (by simp [conj]) ?_
  refine run_loop ?_
  refine run_inv (ι := Nat) hpin (fun j => PInv a b i j d e) (fun j => j) (fun j => [(10, i64 i), (11, i64 j), (0, .sq 0 0 0 1 n .no), (1, i64 a)]) (fun _ => []) (fun _ => rowD n cap e) 1 (b - 1) hP
    [0] rfl rfl (by simp [conj, less_rfl, ren_fnr, renR_fnr]) ?_
  clear hP ij
  intro j hP ih
  have ij := hP.ij
  have jb := hP.jb
  refine goS hB rfl rfl (by simp [conj, Fits_i64]; omega) ?_
  have j0 : 0 + ((j : Nat) : Int).toNat = j := by omega
  rw [j0, a0]
  refine run_cond rfl (fun hc => ?_) (fun hc => ?_)
  · have ⟨c1, c2⟩ : i ≤ j ∧ ¬ e j < e a := by
      simp at hc
      exact ⟨by omega, by omega⟩
    have ih := ih (j - 1) (hP.decJ c1 c2) (by omega)
    refine goS hB rfl rfl (by simp [conj, Fits_i64]; omega) ?_
    refine run_back ?_
    refine run_to hpin [0] rfl rfl ?_ ih
    clear ih
    simp [conj, less_rfl, ren_fnr, renR_fnr]
    omega
  clear ih
  have hnj : i ≤ j → e j < e a := fun c1 => by
    simp at hc
    have := hc c1
    omega
  clear hc
  refine goS hB rfl rfl (by simp [conj]) ?_
  refine run_cond rfl (fun hc => ?_) (fun hc => ?_)
  · have hji : j < i := by simp at hc; omega
    obtain ⟨d1, d2, d3, d4⟩ := hP.done hji
    refine goS hB rfl rfl (by simp [conj, Fits_i64]; omega) ?_
    rw [j0, a0]
    refine run_retC hpin (j, true, swp e j a) ⟨d1, d2, d3, d4⟩ [0] rfl rfl (by simp [conj]) rfl ?_
    simp [conj, less_rfl, ren_fnr, renR_fnr]
    exact fun k _ => Less.of (swp_upd e j a k).symm
  have hij : i ≤ j := by simp at hc; omega
  have hP := hP.swap hij (hni (by omega)) (hnj hij)
  refine goS hB rfl rfl (by simp [conj, Fits_i64]; omega) ?_
  rw [i0, j0]
  refine run_loop ?_
  refine run_inv (ι := Nat × Nat × Dt) hpin (fun z => PInv a b z.1 z.2.1 d z.2.2) (fun z => z.2.1 + b - z.1) (fun z => [(10, i64 z.1), (11, i64 z.2.1), (0, .sq 0 0 0 1 n .no), (1, i64 a)]) (fun _ => []) (fun z => rowD n cap z.2.2) 1 (i + 1, j - 1, swp e i j) hP
    [0] rfl rfl (by
      simp [conj, less_rfl, ren_fnr, renR_fnr]
      exact ⟨by omega, fun k _ => Less.of (swp_upd e i j k).symm⟩) ?_
  clear hP hni hnj hij hc ij jb ai i0 j0
  rintro ⟨i1, j1, f⟩ hP3 ih3
  have hP3 : PInv a b i1 j1 d f := hP3
  refine goS hB rfl rfl conj_nil ?_
  refine run_loop ?_
  refine run_inv (ι := Nat) hpin (fun i => PInv a b i j1 d f ∧ i1 ≤ i) (fun i => b - i) (fun i => [(10, i64 i), (11, i64 j1), (0, .sq 0 0 0 1 n .no), (1, i64 a)]) (fun _ => []) (fun _ => rowD n cap f) 1 i1 ⟨hP3, Nat.le_refl _⟩
    [0] rfl rfl (by simp [conj, less_rfl, ren_fnr, renR_fnr]) ?_
  clear hP3
  rintro i ⟨hP, hi1⟩ ih
  have ai := hP.ai
  have ij := hP.ij
  have jb := hP.jb
  refine goS hB rfl rfl (by simp [conj, Fits_i64]; omega) ?_
  have i0 : 0 + ((i : Nat) : Int).toNat = i := by omega
  rw [i0, a0]
  refine run_cond rfl (fun hc => ?_) (fun hc => ?_)
  · clear ih3
    have ⟨c1, c2⟩ : i ≤ j1 ∧ f i < f a := by
      rw [Bool.and_eq_true, decide_eq_true_iff, decide_eq_true_iff] at hc
      exact ⟨by have := hc.1; omega, hc.2⟩
    have ih := ih (i + 1) ⟨hP.incI c1 c2, by omega⟩ (by omega)
    refine goS hB rfl rfl (by simp [conj, Fits_i64]; omega) ?_
    refine run_back ?_
    refine run_to hpin [0] rfl rfl ?_ ih
    clear ih
    simp [conj, less_rfl, ren_fnr, renR_fnr]
  clear ih
  have hni : i ≤ j1 → ¬ f i < f a := fun c1 c2 => by
    have : (decide ((i : Int) ≤ (j1 : Int)) && decide (f i < f a)) = true := by simp [c2]; omega
    rw [this] at hc; cases hc
  clear hc
  refine goS hB rfl rfl (by simp [conj]) ?_
  refine run_loop ?_
  refine run_inv (ι := Nat) hpin (fun j => PInv a b i j d f ∧ j ≤ j1) (fun j => j) (fun j => [(10, i64 i), (11, i64 j), (0, .sq 0 0 0 1 n .no), (1, i64 a)]) (fun _ => []) (fun _ => rowD n cap f) 1 j1 ⟨hP, Nat.le_refl _⟩
    [0] rfl rfl (by simp [conj, less_rfl, ren_fnr, renR_fnr]) ?_
  clear hP ij jb
  rintro j ⟨hP, hj1⟩ ih
  have ij := hP.ij
  have jb := hP.jb
  refine goS hB rfl rfl (by simp [conj, Fits_i64]; omega) ?_
  have j0 : 0 + ((j : Nat) : Int).toNat = j := by omega
  rw [j0, a0]
  refine run_cond rfl (fun hc => ?_) (fun hc => ?_)
  · clear ih3
    have ⟨c1, c2⟩ : i ≤ j ∧ ¬ f j < f a := by
      simp at hc
      exact ⟨by omega, by omega⟩
    have ih := ih (j - 1) ⟨hP.decJ c1 c2, by omega⟩ (by omega)
    refine goS hB rfl rfl (by simp [conj, Fits_i64]; omega) ?_
    refine run_back ?_
    refine run_to hpin [0] rfl rfl ?_ ih
    clear ih
    simp [conj, less_rfl, ren_fnr, renR_fnr]
    omega
  clear ih
  have hnj : i ≤ j → f j < f a := fun c1 => by
    simp at hc
    have := hc c1
    omega
  clear hc
  refine goS hB rfl rfl (by simp [conj]) ?_
  refine run_cond rfl (fun hc => ?_) (fun hc => ?_)
  · clear ih3
    have hji : j < i := by simp at hc; omega
    obtain ⟨d1, d2, d3, d4⟩ := hP.done hji
    refine goS hB rfl rfl (by simp [conj, Fits_i64]; omega) ?_
    rw [j0, a0]
    refine run_retC hpin (j, false, swp f j a) ⟨d1, d2, d3, d4⟩ [0] rfl rfl (by simp [conj]) rfl ?_
    simp [conj, less_rfl, ren_fnr, renR_fnr]
    exact fun k _ => Less.of (swp_upd f j a k).symm
  have hij : i ≤ j := by simp at hc; omega
  have hP := hP.swap hij (hni (by omega)) (hnj hij)
  have ih3 := ih3 (i + 1, j - 1, swp f i j) hP (by show j - 1 + b - (i + 1) < j1 + b - i1; omega)
  refine goS hB rfl rfl (by simp [conj, Fits_i64]; omega) ?_
  rw [i0, j0]
  refine run_back ?_
  refine run_to hpin [0] rfl rfl ?_ ih3
  clear ih3
  simp [conj, less_rfl, ren_fnr, renR_fnr]
  exact ⟨by omega, fun k _ => Less.of (swp_upd f i j k).symm⟩
end Sx
end
section
/- bits.Len of a byte, nextPowerOfTwo, breakPatternsOrdered. Conditions: as each theorem says. -/
namespace Sx
open Go Go.Proofs
set_option maxRecDepth 100000
set_option maxHeartbeats 20000000 in
theorem len_hc (x : Nat) (hx : x < 129) : HC Try.prog 88 [u64 x] [] [] 0 (fun l : Nat => l ≤ 8 ∧ x < 2 ^ l ∧ (0 < x → 2 ^ l ≤ 2 * x)) (fun l => ⟨i64 l, [], 0⟩) := by
  refine hc_of_run Try.func88 rfl (fun B hB hpin => ?_)
  refine goS hB rfl rfl (by simp [conj]) ?_
  refine run_condF rfl (by simp; omega) ?_
  refine goS hB rfl rfl (by simp [conj]) ?_
  refine run_condF rfl (by simp; omega) ?_
  refine goS hB rfl rfl (by simp [conj]) ?_
  refine run_condF rfl (by simp; omega) ?_
  match x, hx with
  | 0, _ =>
    refine goX hB 300 rfl (by simp [conj, Fits_i64]; try decide +kernel) ?_
    exact run_retC hpin 0 (by decide) [] rfl rfl (by simp [conj]) rfl (by simp [conj]; try decide +kernel)
  | 1, _ =>
    refine goX hB 300 rfl (by simp [conj, Fits_i64]; try decide +kernel) ?_
    exact run_retC hpin 1 (by decide) [] rfl rfl (by simp [conj]) rfl (by simp [conj]; try decide +kernel)
  | 2, _ =>
    refine goX hB 300 rfl (by simp [conj, Fits_i64]; try decide +kernel) ?_
    exact run_retC hpin 2 (by decide) [] rfl rfl (by simp [conj]) rfl (by simp [conj]; try decide +kernel)
  | 3, _ =>
    refine goX hB 300 rfl (by simp [conj, Fits_i64]; try decide +kernel) ?_
    exact run_retC hpin 2 (by decide) [] rfl rfl (by simp [conj]) rfl (by simp [conj]; try decide +kernel)
  | 4, _ =>
    refine goX hB 300 rfl (by simp [conj, Fits_i64]; try decide +kernel) ?_
    exact run_retC hpin 3 (by decide) [] rfl rfl (by simp [conj]) rfl (by simp [conj]; try decide +kernel)
  | 5, _ =>
    refine goX hB 300 rfl (by simp [conj, Fits_i64]; try decide +kernel) ?_
    exact run_retC hpin 3 (by decide) [] rfl rfl (by simp [conj]) rfl (by simp [conj]; try decide +kernel)
  | 6, _ =>
    refine goX hB 300 rfl (by simp [conj, Fits_i64]; try decide +kernel) ?_
    exact run_retC hpin 3 (by decide) [] rfl rfl (by simp [conj]) rfl (by simp [conj]; try decide +kernel)
  | 7, _ =>
    refine goX hB 300 rfl (by simp [conj, Fits_i64]; try decide +kernel) ?_
    exact run_retC hpin 3 (by decide) [] rfl rfl (by simp [conj]) rfl (by simp [conj]; try decide +kernel)
  | 8, _ =>
    refine goX hB 300 rfl (by simp [conj, Fits_i64]; try decide +kernel) ?_
    exact run_retC hpin 4 (by decide) [] rfl rfl (by simp [conj]) rfl (by simp [conj]; try decide +kernel)
  | 9, _ =>
    refine goX hB 300 rfl (by simp [conj, Fits_i64]; try decide +kernel) ?_
    exact run_retC hpin 4 (by decide) [] rfl rfl (by simp [conj]) rfl (by simp [conj]; try decide +kernel)
  | 10, _ =>
    refine goX hB 300 rfl (by simp [conj, Fits_i64]; try decide +kernel) ?_
    exact run_retC hpin 4 (by decide) [] rfl rfl (by simp [conj]) rfl (by simp [conj]; try decide +kernel)
  | 11, _ =>
    refine goX hB 300 rfl (by simp [conj, Fits_i64]; try decide +kernel) ?_
    exact run_retC hpin 4 (by decide) [] rfl rfl (by simp [conj]) rfl (by simp [conj]; try decide +kernel)
  | 12, _ =>
    refine goX hB 300 rfl (by simp [conj, Fits_i64]; try decide +kernel) ?_
    exact run_retC hpin 4 (by decide) [] rfl rfl (by simp [conj]) rfl (by simp [conj]; try decide +kernel)
  | 13, _ =>
    refine goX hB 300 rfl (by simp [conj, Fits_i64]; try decide +kernel) ?_
    exact run_retC hpin 4 (by decide) [] rfl rfl (by simp [conj]) rfl (by simp [conj]; try decide +kernel)
  | 14, _ =>
    refine goX hB 300 rfl (by simp [conj, Fits_i64]; try decide +kernel) ?_
    exact run_retC hpin 4 (by decide) [] rfl rfl (by simp [conj]) rfl (by simp [conj]; try decide +kernel)
  | 15, _ =>
    refine goX hB 300 rfl (by simp [conj, Fits_i64]; try decide +kernel) ?_
    exact run_retC hpin 4 (by decide) [] rfl rfl (by simp [conj]) rfl (by simp [conj]; try decide +kernel)
  | 16, _ =>
    refine goX hB 300 rfl (by simp [conj, Fits_i64]; try decide +kernel) ?_
    exact run_retC hpin 5 (by decide) [] rfl rfl (by simp [conj]) rfl (by simp [conj]; try decide +kernel)
  | 17, _ =>
    refine goX hB 300 rfl (by simp [conj, Fits_i64]; try decide +kernel) ?_
    exact run_retC hpin 5 (by decide) [] rfl rfl (by simp [conj]) rfl (by simp [conj]; try decide +kernel)
  | 18, _ =>
    refine goX hB 300 rfl (by simp [conj, Fits_i64]; try decide +kernel) ?_
    exact run_retC hpin 5 (by decide) [] rfl rfl (by simp [conj]) rfl (by simp [conj]; try decide +kernel)
  | 19, _ =>
    refine goX hB 300 rfl (by simp [conj, Fits_i64]; try decide +kernel) ?_
    exact run_retC hpin 5 (by decide) [] rfl rfl (by simp [conj]) rfl (by simp [conj]; try decide +kernel)
  | 20, _ =>
    refine goX hB 300 rfl (by simp [conj, Fits_i64]; try decide +kernel) ?_
    exact run_retC hpin 5 (by decide) [] rfl rfl (by simp [conj]) rfl (by simp [conj]; try decide +kernel)
  | 21, _ =>
    refine goX hB 300 rfl (by simp [conj, Fits_i64]; try decide +kernel) ?_
    exact run_retC hpin 5 (by decide) [] rfl rfl (by simp [conj]) rfl (by simp [conj]; try decide +kernel)
  | 22, _ =>
    refine goX hB 300 rfl (by simp [conj, Fits_i64]; try decide +kernel) ?_
    exact run_retC hpin 5 (by decide) [] rfl rfl (by simp [conj]) rfl (by simp [conj]; try decide +kernel)
  | 23, _ =>
    refine goX hB 300 rfl (by simp [conj, Fits_i64]; try decide +kernel) ?_
    exact run_retC hpin 5 (by decide) [] rfl rfl (by simp [conj]) rfl (by simp [conj]; try decide +kernel)
  | 24, _ =>
    refine goX hB 300 rfl (by simp [conj, Fits_i64]; try decide +kernel) ?_
    exact run_retC hpin 5 (by decide) [] rfl rfl (by simp [conj]) rfl (by simp [conj]; try decide +kernel)
  | 25, _ =>
    refine goX hB 300 rfl (by simp [conj, Fits_i64]; try decide +kernel) ?_
    exact run_retC hpin 5 (by decide) [] rfl rfl (by simp [conj]) rfl (by simp [conj]; try decide +kernel)
  | 26, _ =>
    refine goX hB 300 rfl (by simp [conj, Fits_i64]; try decide +kernel) ?_
    exact run_retC hpin 5 (by decide) [] rfl rfl (by simp [conj]) rfl (by simp [conj]; try decide +kernel)
  | 27, _ =>
    refine goX hB 300 rfl (by simp [conj, Fits_i64]; try decide +kernel) ?_
    exact run_retC hpin 5 (by decide) [] rfl rfl (by simp [conj]) rfl (by simp [conj]; try decide +kernel)
  | 28, _ =>
    refine goX hB 300 rfl (by simp [conj, Fits_i64]; try decide +kernel) ?_
    exact run_retC hpin 5 (by decide) [] rfl rfl (by simp [conj]) rfl (by simp [conj]; try decide +kernel)
  | 29, _ =>
    refine goX hB 300 rfl (by simp [conj, Fits_i64]; try decide +kernel) ?_
    exact run_retC hpin 5 (by decide) [] rfl rfl (by simp [conj]) rfl (by simp [conj]; try decide +kernel)
  | 30, _ =>
    refine goX hB 300 rfl (by simp [conj, Fits_i64]; try decide +kernel) ?_
    exact run_retC hpin 5 (by decide) [] rfl rfl (by simp [conj]) rfl (by simp [conj]; try decide +kernel)
  | 31, _ =>
    refine goX hB 300 rfl (by simp [conj, Fits_i64]; try decide +kernel) ?_
    exact run_retC hpin 5 (by decide) [] rfl rfl (by simp [conj]) rfl (by simp [conj]; try decide +kernel)
  | 32, _ =>
    refine goX hB 300 rfl (by simp [conj, Fits_i64]; try decide +kernel) ?_
    exact run_retC hpin 6 (by decide) [] rfl rfl (by simp [conj]) rfl (by simp [conj]; try decide +kernel)
  | 33, _ =>
    refine goX hB 300 rfl (by simp [conj, Fits_i64]; try decide +kernel) ?_
    exact run_retC hpin 6 (by decide) [] rfl rfl (by simp [conj]) rfl (by simp [conj]; try decide +kernel)
  | 34, _ =>
    refine goX hB 300 rfl (by simp [conj, Fits_i64]; try decide +kernel) ?_
    exact run_retC hpin 6 (by decide) [] rfl rfl (by simp [conj]) rfl (by simp [conj]; try decide +kernel)
  | 35, _ =>
    refine goX hB 300 rfl (by simp [conj, Fits_i64]; try decide +kernel) ?_
    exact run_retC hpin 6 (by decide) [] rfl rfl (by simp [conj]) rfl (by simp [conj]; try decide +kernel)
  | 36, _ =>
    refine goX hB 300 rfl (by simp [conj, Fits_i64]; try decide +kernel) ?_
    exact run_retC hpin 6 (by decide) [] rfl rfl (by simp [conj]) rfl (by simp [conj]; try decide +kernel)
  | 37, _ =>
    refine goX hB 300 rfl (by simp [conj, Fits_i64]; try decide +kernel) ?_
    exact run_retC hpin 6 (by decide) [] rfl rfl (by simp [conj]) rfl (by simp [conj]; try decide +kernel)
  | 38, _ =>
    refine goX hB 300 rfl (by simp [conj, Fits_i64]; try decide +kernel) ?_
    exact run_retC hpin 6 (by decide) [] rfl rfl (by simp [conj]) rfl (by simp [conj]; try decide +kernel)
  | 39, _ =>
    refine goX hB 300 rfl (by simp [conj, Fits_i64]; try decide +kernel) ?_
    exact run_retC hpin 6 (by decide) [] rfl rfl (by simp [conj]) rfl (by simp [conj]; try decide +kernel)
  | 40, _ =>
    refine goX hB 300 rfl (by simp [conj, Fits_i64]; try decide +kernel) ?_
    exact run_retC hpin 6 (by decide) [] rfl rfl (by simp [conj]) rfl (by simp [conj]; try decide +kernel)
  | 41, _ =>
    refine goX hB 300 rfl (by simp [conj, Fits_i64]; try decide +kernel) ?_
    exact run_retC hpin 6 (by decide) [] rfl rfl (by simp [conj]) rfl (by simp [conj]; try decide +kernel)
  | 42, _ =>
    refine goX hB 300 rfl (by simp [conj, Fits_i64]; try decide +kernel) ?_
    exact run_retC hpin 6 (by decide) [] rfl rfl (by simp [conj]) rfl (by simp [conj]; try decide +kernel)
  | 43, _ =>
    refine goX hB 300 rfl (by simp [conj, Fits_i64]; try decide +kernel) ?_
    exact run_retC hpin 6 (by decide) [] rfl rfl (by simp [conj]) rfl (by simp [conj]; try decide +kernel)
  | 44, _ =>
    refine goX hB 300 rfl (by simp [conj, Fits_i64]; try decide +kernel) ?_
    exact run_retC hpin 6 (by decide) [] rfl rfl (by simp [conj]) rfl (by simp [conj]; try decide +kernel)
  | 45, _ =>
    refine goX hB 300 rfl (by simp [conj, Fits_i64]; try decide +kernel) ?_
    exact run_retC hpin 6 (by decide) [] rfl rfl (by simp [conj]) rfl (by simp [conj]; try decide +kernel)
  | 46, _ =>
    refine goX hB 300 rfl (by simp [conj, Fits_i64]; try decide +kernel) ?_
    exact run_retC hpin 6 (by decide) [] rfl rfl (by simp [conj]) rfl (by simp [conj]; try decide +kernel)
  | 47, _ =>
    refine goX hB 300 rfl (by simp [conj, Fits_i64]; try decide +kernel) ?_
    exact run_retC hpin 6 (by decide) [] rfl rfl (by simp [conj]) rfl (by simp [conj]; try decide +kernel)
  | 48, _ =>
    refine goX hB 300 rfl (by simp [conj, Fits_i64]; try decide +kernel) ?_
    exact run_retC hpin 6 (by decide) [] rfl rfl (by simp [conj]) rfl (by simp [conj]; try decide +kernel)
  | 49, _ =>
    refine goX hB 300 rfl (by simp [conj, Fits_i64]; try decide +kernel) ?_
    exact run_retC hpin 6 (by decide) [] rfl rfl (by simp [conj]) rfl (by simp [conj]; try decide +kernel)
  | 50, _ =>
    refine goX hB 300 rfl (by simp [conj, Fits_i64]; try decide +kernel) ?_
    exact run_retC hpin 6 (by decide) [] rfl rfl (by simp [conj]) rfl (by simp [conj]; try decide +kernel)
  | 51, _ =>
    refine goX hB 300 rfl (by simp [conj, Fits_i64]; try decide +kernel) ?_
    exact run_retC hpin 6 (by decide) [] rfl rfl (by simp [conj]) rfl (by simp [conj]; try decide +kernel)
  | 52, _ =>
    refine goX hB 300 rfl (by simp [conj, Fits_i64]; try decide +kernel) ?_
    exact run_retC hpin 6 (by decide) [] rfl rfl (by simp [conj]) rfl (by simp [conj]; try decide +kernel)
  | 53, _ =>
    refine goX hB 300 rfl (by simp [conj, Fits_i64]; try decide +kernel) ?_
    exact run_retC hpin 6 (by decide) [] rfl rfl (by simp [conj]) rfl (by simp [conj]; try decide +kernel)
  | 54, _ =>
    refine goX hB 300 rfl (by simp [conj, Fits_i64]; try decide +kernel) ?_
    exact run_retC hpin 6 (by decide) [] rfl rfl (by simp [conj]) rfl (by simp [conj]; try decide +kernel)
  | 55, _ =>
    refine goX hB 300 rfl (by simp [conj, Fits_i64]; try decide +kernel) ?_
    exact run_retC hpin 6 (by decide) [] rfl rfl (by simp [conj]) rfl (by simp [conj]; try decide +kernel)
  | 56, _ =>
    refine goX hB 300 rfl (by simp [conj, Fits_i64]; try decide +kernel) ?_
    exact run_retC hpin 6 (by decide) [] rfl rfl (by simp [conj]) rfl (by simp [conj]; try decide +kernel)
  | 57, _ =>
    refine goX hB 300 rfl (by simp [conj, Fits_i64]; try decide +kernel) ?_
    exact run_retC hpin 6 (by decide) [] rfl rfl (by simp [conj]) rfl (by simp [conj]; try decide +kernel)
  | 58, _ =>
    refine goX hB 300 rfl (by simp [conj, Fits_i64]; try decide +kernel) ?_
    exact run_retC hpin 6 (by decide) [] rfl rfl (by simp [conj]) rfl (by simp [conj]; try decide +kernel)
  | 59, _ =>
    refine goX hB 300 rfl (by simp [conj, Fits_i64]; try decide +kernel) ?_
    exact run_retC hpin 6 (by decide) [] rfl rfl (by simp [conj]) rfl (by simp [conj]; try decide +kernel)
  | 60, _ =>
    refine goX hB 300 rfl (by simp [conj, Fits_i64]; try decide +kernel) ?_
    exact run_retC hpin 6 (by decide) [] rfl rfl (by simp [conj]) rfl (by simp [conj]; try decide +kernel)
  | 61, _ =>
    refine goX hB 300 rfl (by simp [conj, Fits_i64]; try decide +kernel) ?_
    exact run_retC hpin 6 (by decide) [] rfl rfl (by simp [conj]) rfl (by simp [conj]; try decide +kernel)
  | 62, _ =>
    refine goX hB 300 rfl (by simp [conj, Fits_i64]; try decide +kernel) ?_
    exact run_retC hpin 6 (by decide) [] rfl rfl (by simp [conj]) rfl (by simp [conj]; try decide +kernel)
  | 63, _ =>
    refine goX hB 300 rfl (by simp [conj, Fits_i64]; try decide +kernel) ?_
    exact run_retC hpin 6 (by decide) [] rfl rfl (by simp [conj]) rfl (by simp [conj]; try decide +kernel)
  | 64, _ =>
    refine goX hB 300 rfl (by simp [conj, Fits_i64]; try decide +kernel) ?_
    exact run_retC hpin 7 (by decide) [] rfl rfl (by simp [conj]) rfl (by simp [conj]; try decide +kernel)
  | 65, _ =>
    refine goX hB 300 rfl (by simp [conj, Fits_i64]; try decide +kernel) ?_
    exact run_retC hpin 7 (by decide) [] rfl rfl (by simp [conj]) rfl (by simp [conj]; try decide +kernel)
  | 66, _ =>
    refine goX hB 300 rfl (by simp [conj, Fits_i64]; try decide +kernel) ?_
    exact run_retC hpin 7 (by decide) [] rfl rfl (by simp [conj]) rfl (by simp [conj]; try decide +kernel)
  | 67, _ =>
    refine goX hB 300 rfl (by simp [conj, Fits_i64]; try decide +kernel) ?_
    exact run_retC hpin 7 (by decide) [] rfl rfl (by simp [conj]) rfl (by simp [conj]; try decide +kernel)
  | 68, _ =>
    refine goX hB 300 rfl (by simp [conj, Fits_i64]; try decide +kernel) ?_
    exact run_retC hpin 7 (by decide) [] rfl rfl (by simp [conj]) rfl (by simp [conj]; try decide +kernel)
  | 69, _ =>
    refine goX hB 300 rfl (by simp [conj, Fits_i64]; try decide +kernel) ?_
    exact run_retC hpin 7 (by decide) [] rfl rfl (by simp [conj]) rfl (by simp [conj]; try decide +kernel)
  | 70, _ =>
    refine goX hB 300 rfl (by simp [conj, Fits_i64]; try decide +kernel) ?_
    exact run_retC hpin 7 (by decide) [] rfl rfl (by simp [conj]) rfl (by simp [conj]; try decide +kernel)
  | 71, _ =>
    refine goX hB 300 rfl (by simp [conj, Fits_i64]; try decide +kernel) ?_
    exact run_retC hpin 7 (by decide) [] rfl rfl (by simp [conj]) rfl (by simp [conj]; try decide +kernel)
  | 72, _ =>
    refine goX hB 300 rfl (by simp [conj, Fits_i64]; try decide +kernel) ?_
    exact run_retC hpin 7 (by decide) [] rfl rfl (by simp [conj]) rfl (by simp [conj]; try decide +kernel)
  | 73, _ =>
    refine goX hB 300 rfl (by simp [conj, Fits_i64]; try decide +kernel) ?_
    exact run_retC hpin 7 (by decide) [] rfl rfl (by simp [conj]) rfl (by simp [conj]; try decide +kernel)
  | 74, _ =>
    refine goX hB 300 rfl (by simp [conj, Fits_i64]; try decide +kernel) ?_
    exact run_retC hpin 7 (by decide) [] rfl rfl (by simp [conj]) rfl (by simp [conj]; try decide +kernel)
  | 75, _ =>
    refine goX hB 300 rfl (by simp [conj, Fits_i64]; try decide +kernel) ?_
    exact run_retC hpin 7 (by decide) [] rfl rfl (by simp [conj]) rfl (by simp [conj]; try decide +kernel)
  | 76, _ =>
    refine goX hB 300 rfl (by simp [conj, Fits_i64]; try decide +kernel) ?_
    exact run_retC hpin 7 (by decide) [] rfl rfl (by simp [conj]) rfl (by simp [conj]; try decide +kernel)
  | 77, _ =>
    refine goX hB 300 rfl (by simp [conj, Fits_i64]; try decide +kernel) ?_
    exact run_retC hpin 7 (by decide) [] rfl rfl (by simp [conj]) rfl (by simp [conj]; try decide +kernel)
  | 78, _ =>
    refine goX hB 300 rfl (by simp [conj, Fits_i64]; try decide +kernel) ?_
    exact run_retC hpin 7 (by decide) [] rfl rfl (by simp [conj]) rfl (by simp [conj]; try decide +kernel)
  | 79, _ =>
    refine goX hB 300 rfl (by simp [conj, Fits_i64]; try decide +kernel) ?_
    exact run_retC hpin 7 (by decide) [] rfl rfl (by simp [conj]) rfl (by simp [conj]; try decide +kernel)
  | 80, _ =>
    refine goX hB 300 rfl (by simp [conj, Fits_i64]; try decide +kernel) ?_
    exact run_retC hpin 7 (by decide) [] rfl rfl (by simp [conj]) rfl (by simp [conj]; try decide +kernel)
  | 81, _ =>
    refine goX hB 300 rfl (by simp [conj, Fits_i64]; try decide +kernel) ?_
    exact run_retC hpin 7 (by decide) [] rfl rfl (by simp [conj]) rfl (by simp [conj]; try decide +kernel)
  | 82, _ =>
    refine goX hB 300 rfl (by simp [conj, Fits_i64]; try decide +kernel) ?_
    exact run_retC hpin 7 (by decide) [] rfl rfl (by simp [conj]) rfl (by simp [conj]; try decide +kernel)
  | 83, _ =>
    refine goX hB 300 rfl (by simp [conj, Fits_i64]; try decide +kernel) ?_
    exact run_retC hpin 7 (by decide) [] rfl rfl (by simp [conj]) rfl (by simp [conj]; try decide +kernel)
  | 84, _ =>
    refine goX hB 300 rfl (by simp [conj, Fits_i64]; try decide +kernel) ?_
    exact run_retC hpin 7 (by decide) [] rfl rfl (by simp [conj]) rfl (by simp [conj]; try decide +kernel)
  | 85, _ =>
    refine goX hB 300 rfl (by simp [conj, Fits_i64]; try decide +kernel) ?_
    exact run_retC hpin 7 (by decide) [] rfl rfl (by simp [conj]) rfl (by simp [conj]; try decide +kernel)
  | 86, _ =>
    refine goX hB 300 rfl (by simp [conj, Fits_i64]; try decide +kernel) ?_
    exact run_retC hpin 7 (by decide) [] rfl rfl (by simp [conj]) rfl (by simp [conj]; try decide +kernel)
  | 87, _ =>
    refine goX hB 300 rfl (by simp [conj, Fits_i64]; try decide +kernel) ?_
    exact run_retC hpin 7 (by decide) [] rfl rfl (by simp [conj]) rfl (by simp [conj]; try decide +kernel)
  | 88, _ =>
    refine goX hB 300 rfl (by simp [conj, Fits_i64]; try decide +kernel) ?_
    exact run_retC hpin 7 (by decide) [] rfl rfl (by simp [conj]) rfl (by simp [conj]; try decide +kernel)
  | 89, _ =>
    refine goX hB 300 rfl (by simp [conj, Fits_i64]; try decide +kernel) ?_
    exact run_retC hpin 7 (by decide) [] rfl rfl (by simp [conj]) rfl (by simp [conj]; try decide +kernel)
  | 90, _ =>
    refine goX hB 300 rfl (by simp [conj, Fits_i64]; try decide +kernel) ?_
    exact run_retC hpin 7 (by decide) [] rfl rfl (by simp [conj]) rfl (by simp [conj]; try decide +kernel)
  | 91, _ =>
    refine goX hB 300 rfl (by simp [conj, Fits_i64]; try decide +kernel) ?_
    exact run_retC hpin 7 (by decide) [] rfl rfl (by simp [conj]) rfl (by simp [conj]; try decide +kernel)
  | 92, _ =>
    refine goX hB 300 rfl (by simp [conj, Fits_i64]; try decide +kernel) ?_
    exact run_retC hpin 7 (by decide) [] rfl rfl (by simp [conj]) rfl (by simp [conj]; try decide +kernel)
  | 93, _ =>
    refine goX hB 300 rfl (by simp [conj, Fits_i64]; try decide +kernel) ?_
    exact run_retC hpin 7 (by decide) [] rfl rfl (by simp [conj]) rfl (by simp [conj]; try decide +kernel)
  | 94, _ =>
    refine goX hB 300 rfl (by simp [conj, Fits_i64]; try decide +kernel) ?_
    exact run_retC hpin 7 (by decide) [] rfl rfl (by simp [conj]) rfl (by simp [conj]; try decide +kernel)
  | 95, _ =>
    refine goX hB 300 rfl (by simp [conj, Fits_i64]; try decide +kernel) ?_
    exact run_retC hpin 7 (by decide) [] rfl rfl (by simp [conj]) rfl (by simp [conj]; try decide +kernel)
  | 96, _ =>
    refine goX hB 300 rfl (by simp [conj, Fits_i64]; try decide +kernel) ?_
    exact run_retC hpin 7 (by decide) [] rfl rfl (by simp [conj]) rfl (by simp [conj]; try decide +kernel)
  | 97, _ =>
    refine goX hB 300 rfl (by simp [conj, Fits_i64]; try decide +kernel) ?_
    exact run_retC hpin 7 (by decide) [] rfl rfl (by simp [conj]) rfl (by simp [conj]; try decide +kernel)
  | 98, _ =>
    refine goX hB 300 rfl (by simp [conj, Fits_i64]; try decide +kernel) ?_
    exact run_retC hpin 7 (by decide) [] rfl rfl (by simp [conj]) rfl (by simp [conj]; try decide +kernel)
  | 99, _ =>
    refine goX hB 300 rfl (by simp [conj, Fits_i64]; try decide +kernel) ?_
    exact run_retC hpin 7 (by decide) [] rfl rfl (by simp [conj]) rfl (by simp [conj]; try decide +kernel)
  | 100, _ =>
    refine goX hB 300 rfl (by simp [conj, Fits_i64]; try decide +kernel) ?_
    exact run_retC hpin 7 (by decide) [] rfl rfl (by simp [conj]) rfl (by simp [conj]; try decide +kernel)
  | 101, _ =>
    refine goX hB 300 rfl (by simp [conj, Fits_i64]; try decide +kernel) ?_
    exact run_retC hpin 7 (by decide) [] rfl rfl (by simp [conj]) rfl (by simp [conj]; try decide +kernel)
  | 102, _ =>
    refine goX hB 300 rfl (by simp [conj, Fits_i64]; try decide +kernel) ?_
    exact run_retC hpin 7 (by decide) [] rfl rfl (by simp [conj]) rfl (by simp [conj]; try decide +kernel)
  | 103, _ =>
    refine goX hB 300 rfl (by simp [conj, Fits_i64]; try decide +kernel) ?_
    exact run_retC hpin 7 (by decide) [] rfl rfl (by simp [conj]) rfl (by simp [conj]; try decide +kernel)
  | 104, _ =>
    refine goX hB 300 rfl (by simp [conj, Fits_i64]; try decide +kernel) ?_
    exact run_retC hpin 7 (by decide) [] rfl rfl (by simp [conj]) rfl (by simp [conj]; try decide +kernel)
  | 105, _ =>
    refine goX hB 300 rfl (by simp [conj, Fits_i64]; try decide +kernel) ?_
    exact run_retC hpin 7 (by decide) [] rfl rfl (by simp [conj]) rfl (by simp [conj]; try decide +kernel)
  | 106, _ =>
    refine goX hB 300 rfl (by simp [conj, Fits_i64]; try decide +kernel) ?_
    exact run_retC hpin 7 (by decide) [] rfl rfl (by simp [conj]) rfl (by simp [conj]; try decide +kernel)
  | 107, _ =>
    refine goX hB 300 rfl (by simp [conj, Fits_i64]; try decide +kernel) ?_
    exact run_retC hpin 7 (by decide) [] rfl rfl (by simp [conj]) rfl (by simp [conj]; try decide +kernel)
  | 108, _ =>
    refine goX hB 300 rfl (by simp [conj, Fits_i64]; try decide +kernel) ?_
    exact run_retC hpin 7 (by decide) [] rfl rfl (by simp [conj]) rfl (by simp [conj]; try decide +kernel)
  | 109, _ =>
    refine goX hB 300 rfl (by simp [conj, Fits_i64]; try decide +kernel) ?_
    exact run_retC hpin 7 (by decide) [] rfl rfl (by simp [conj]) rfl (by simp [conj]; try decide +kernel)
  | 110, _ =>
    refine goX hB 300 rfl (by simp [conj, Fits_i64]; try decide +kernel) ?_
    exact run_retC hpin 7 (by decide) [] rfl rfl (by simp [conj]) rfl (by simp [conj]; try decide +kernel)
  | 111, _ =>
    refine goX hB 300 rfl (by simp [conj, Fits_i64]; try decide +kernel) ?_
    exact run_retC hpin 7 (by decide) [] rfl rfl (by simp [conj]) rfl (by simp [conj]; try decide +kernel)
  | 112, _ =>
    refine goX hB 300 rfl (by simp [conj, Fits_i64]; try decide +kernel) ?_
    exact run_retC hpin 7 (by decide) [] rfl rfl (by simp [conj]) rfl (by simp [conj]; try decide +kernel)
  | 113, _ =>
    refine goX hB 300 rfl (by simp [conj, Fits_i64]; try decide +kernel) ?_
    exact run_retC hpin 7 (by decide) [] rfl rfl (by simp [conj]) rfl (by simp [conj]; try decide +kernel)
  | 114, _ =>
    refine goX hB 300 rfl (by simp [conj, Fits_i64]; try decide +kernel) ?_
    exact run_retC hpin 7 (by decide) [] rfl rfl (by simp [conj]) rfl (by simp [conj]; try decide +kernel)
  | 115, _ =>
    refine goX hB 300 rfl (by simp [conj, Fits_i64]; try decide +kernel) ?_
    exact run_retC hpin 7 (by decide) [] rfl rfl (by simp [conj]) rfl (by simp [conj]; try decide +kernel)
  | 116, _ =>
    refine goX hB 300 rfl (by simp [conj, Fits_i64]; try decide +kernel) ?_
    exact run_retC hpin 7 (by decide) [] rfl rfl (by simp [conj]) rfl (by simp [conj]; try decide +kernel)
  | 117, _ =>
    refine goX hB 300 rfl (by simp [conj, Fits_i64]; try decide +kernel) ?_
    exact run_retC hpin 7 (by decide) [] rfl rfl (by simp [conj]) rfl (by simp [conj]; try decide +kernel)
  | 118, _ =>
    refine goX hB 300 rfl (by simp [conj, Fits_i64]; try decide +kernel) ?_
    exact run_retC hpin 7 (by decide) [] rfl rfl (by simp [conj]) rfl (by simp [conj]; try decide +kernel)
  | 119, _ =>
    refine goX hB 300 rfl (by simp [conj, Fits_i64]; try decide +kernel) ?_
    exact run_retC hpin 7 (by decide) [] rfl rfl (by simp [conj]) rfl (by simp [conj]; try decide +kernel)
  | 120, _ =>
    refine goX hB 300 rfl (by simp [conj, Fits_i64]; try decide +kernel) ?_
    exact run_retC hpin 7 (by decide) [] rfl rfl (by simp [conj]) rfl (by simp [conj]; try decide +kernel)
  | 121, _ =>
    refine goX hB 300 rfl (by simp [conj, Fits_i64]; try decide +kernel) ?_
    exact run_retC hpin 7 (by decide) [] rfl rfl (by simp [conj]) rfl (by simp [conj]; try decide +kernel)
  | 122, _ =>
    refine goX hB 300 rfl (by simp [conj, Fits_i64]; try decide +kernel) ?_
    exact run_retC hpin 7 (by decide) [] rfl rfl (by simp [conj]) rfl (by simp [conj]; try decide +kernel)
  | 123, _ =>
    refine goX hB 300 rfl (by simp [conj, Fits_i64]; try decide +kernel) ?_
    exact run_retC hpin 7 (by decide) [] rfl rfl (by simp [conj]) rfl (by simp [conj]; try decide +kernel)
  | 124, _ =>
    refine goX hB 300 rfl (by simp [conj, Fits_i64]; try decide +kernel) ?_
    exact run_retC hpin 7 (by decide) [] rfl rfl (by simp [conj]) rfl (by simp [conj]; try decide +kernel)
  | 125, _ =>
    refine goX hB 300 rfl (by simp [conj, Fits_i64]; try decide +kernel) ?_
    exact run_retC hpin 7 (by decide) [] rfl rfl (by simp [conj]) rfl (by simp [conj]; try decide +kernel)
  | 126, _ =>
    refine goX hB 300 rfl (by simp [conj, Fits_i64]; try decide +kernel) ?_
    exact run_retC hpin 7 (by decide) [] rfl rfl (by simp [conj]) rfl (by simp [conj]; try decide +kernel)
  | 127, _ =>
    refine goX hB 300 rfl (by simp [conj, Fits_i64]; try decide +kernel) ?_
    exact run_retC hpin 7 (by decide) [] rfl rfl (by simp [conj]) rfl (by simp [conj]; try decide +kernel)
  | 128, _ =>
    refine goX hB 300 rfl (by simp [conj, Fits_i64]; try decide +kernel) ?_
    exact run_retC hpin 8 (by decide) [] rfl rfl (by simp [conj]) rfl (by simp [conj]; try decide +kernel)
  | y + 129, h => exact absurd h (by omega)
end Sx
end
section
/- breakPatternsOrdered swaps. Conditions: as each theorem says. -/
namespace Sx
open Go Go.Proofs
set_option maxRecDepth 100000
theorem wrapU (x : Int) : IntKind.u64.wrap x = x % 18446744073709551616 := by
  have e : (2 : Int) ^ IntKind.u64.bits = 18446744073709551616 := by decide
  simp [IntKind.wrap, IntKind.signed, e]
theorem next_hc (x : Int) : HC Try.prog 102 [.ptr 0 0] [(0, .cells [u64 x] 162)] [] 1 (fun y : Int => 0 ≤ y ∧ y < 18446744073709551616) (fun y => ⟨u64 y, [(0, .cells [u64 y] 162)], 1⟩) := by
  refine hc_of_run Try.func102 rfl (fun B hB hpin => ?_)
  refine goS hB rfl rfl (by simp [conj]) ?_
  refine run_retC hpin _ ⟨?_, ?_⟩ [0] rfl rfl (by simp [conj]) rfl (by simp [conj]; rfl)
  · rw [wrapU]; omega
  · rw [wrapU]; omega
theorem pow2_hc (l : Nat) (h0 : 0 < l) (hl : l < 129) : HC Try.prog 101 [i64 l] [] [] 0 (fun m : Nat => 1 ≤ m ∧ m ≤ 2 * l) (fun m => ⟨u64 m, [], 0⟩) := by
  have hw : IntKind.u64.wrap (l : Int) = l := by rw [wrapU]; omega
  refine hc_of_run Try.func101 rfl (fun B hB hpin => ?_)
  refine goS hB rfl rfl (by simp [conj]) ?_
  rw [hw]
  refine run_callC (len_hc l hl) named hB [] rfl rfl rfl rfl (by simp [conj]) (by simp [conj]) ?_
  rintro k ⟨k1, k2, k3⟩
  refine ⟨show 0 ≤ 0 by omega, _, _, _, rfl, rfl, rfl, ?_⟩
  refine goS hB rfl rfl (by simp [conj]) ?_
  have hk := k3 h0
  have hp : (2 : Nat) ^ k ≤ 2 ^ 8 := Nat.pow_le_pow_right (by decide) k1
  refine run_retC hpin (2 ^ k) ⟨Nat.one_le_two_pow, hk⟩ [] rfl rfl (by simp [conj]) rfl ?_
  have e1 : (min ((k : Nat) : Int).toNat IntKind.u64.bits) = k := by
    have : IntKind.u64.bits = 64 := rfl
    rw [this]; omega
  have e2 : ((2 ^ k : Nat) : Int) = 2 ^ k := by simp
  have e3 : IntKind.u64.wrap (1 * 2 ^ (min ((k : Nat) : Int).toNat IntKind.u64.bits)) = ((2 ^ k : Nat) : Int) := by
    rw [e1, ← e2, wrapU]
    omega
  rw [e3]
  simp [conj]
theorem and_lt (y : Int) (m : Nat) (m1 : 1 ≤ m) (m2 : m ≤ 1000) : ∃ o : Nat, o < m ∧ IntKind.i64.wrap (IntKind.u64.wrap ((BitVec.ofInt IntKind.u64.bits y &&& BitVec.ofInt IntKind.u64.bits (IntKind.u64.wrap ((m : Int) - 1))).toNat)) = o := by
  have hbits : IntKind.u64.bits = 64 := rfl
  rw [hbits]
  have e0 : IntKind.u64.wrap ((m : Int) - 1) = ((m - 1 : Nat) : Int) := by rw [wrapU]; omega
  rw [e0, BitVec.ofInt_natCast, BitVec.toNat_and, BitVec.toNat_ofNat, Nat.mod_eq_of_lt (by omega)]
  have h := Nat.and_le_right (n := (BitVec.ofInt 64 y).toNat) (m := m - 1)
  generalize (BitVec.ofInt 64 y).toNat &&& (m - 1) = v at h ⊢
  refine ⟨v, by omega, ?_⟩
  rw [wrapU, Int.emod_eq_of_lt (by omega) (by omega)]
  simp [IntKind.wrap, IntKind.bits, IntKind.signed]
  omega
set_option maxHeartbeats 2000000 in
theorem break_hc (n cap a b : Nat) (hab : a + 12 < b) (hb : b ≤ n) (hn : n < 129) (d : Dt) :
    HC Try.prog 91 [.sq 0 0 0 1 n .no, i64 a, i64 b] (rowD n cap d) [] 1 (fun e : Dt => SW a b d e) (fun e => ⟨.tup [], rowD n cap e, 1⟩) := by
  refine hc_of_run Try.func91 rfl (fun B hB hpin => ?_)
  refine goS hB rfl rfl (by simp [conj, Fits_i64]; omega) ?_
  refine run_condT rfl (by simp; omega) ?_
  refine goS hB rfl rfl (by simp [conj, Fits_i64]; try omega) ?_
  obtain ⟨l, hl⟩ : ∃ l : Nat, (b : Int) - a = l := ⟨b - a, by omega⟩
  rw [hl]
  refine run_callC (pow2_hc l (by omega) (by omega)) named hB [] rfl rfl rfl rfl (by simp [conj]) (by simp [conj]) ?_
  rintro m ⟨m1, m2⟩
  refine ⟨show 0 ≤ 0 by omega, _, _, _, rfl, rfl, rfl, ?_⟩
  refine goS hB rfl rfl (by simp [conj, Fits_i64]; omega) ?_
  refine run_loop ?_
  refine run_inv (ι := Nat × Int × Dt) hpin (fun z => a + l / 4 * 2 ≤ z.1 + 1 ∧ SW a b d z.2.2) (fun z => b - z.1) (fun z => [(9, i64 z.1), (8, u64 m), (7, .ptr 1 0), (6, i64 l), (0, .sq 0 0 0 1 n .no), (1, i64 a)]) (fun _ => []) (fun z => (1, .cells [u64 z.2.1] 162) :: rowD n cap z.2.2) 2 (a + l / 4 * 2 - 1, l, d) ⟨by show a + l / 4 * 2 ≤ a + l / 4 * 2 - 1 + 1; omega, .refl⟩
    [0, 1] rfl rfl (by
      simp [conj, less_rfl, ren_fnr, wrapU]
      omega) ?_
  rintro ⟨i, x, e⟩ ⟨h1, h2⟩ ih
  have h1 : a + l / 4 * 2 ≤ i + 1 := h1
  have h2 : SW a b d e := h2
  refine goS hB rfl rfl (by simp [conj, Fits_i64]; omega) ?_
  refine run_cond rfl (fun hc => ?_) (fun hc => ?_)
  · have hi : i ≤ a + l / 4 * 2 + 1 := by simp at hc; omega
    clear hc
    refine goS hB rfl rfl (by simp [conj]) ?_
    refine run_callC (next_hc x) named hB [1] rfl rfl rfl rfl (by simp [conj]) (by simp [conj, less_rfl]) ?_
    rintro y ⟨y0, y1⟩
    refine ⟨show 1 ≤ 1 by omega, _, _, _, rfl, rfl, rfl, ?_⟩
    refine goS hB rfl rfl (by simp [conj, Fits_i64]; try omega) ?_
    obtain ⟨o, o1, o2⟩ := and_lt y m m1 (by omega)
    rw [o2]
    refine run_cond rfl (fun hc => ?_) (fun hc => ?_)
    · have ho : l ≤ o := by simp at hc; omega
      have z0 : 0 + ((i : Nat) : Int).toNat = i := by omega
      have z1 : 0 + ((a : Int) + ((o : Int) - (l : Int))).toNat = a + (o - l) := by omega
      have ih := ih (i + 1, y, swp e i (a + (o - l))) ⟨by show a + l / 4 * 2 ≤ i + 1 + 1; omega, .step i (a + (o - l)) h2 (by omega) (by omega) (by omega) (by omega)⟩ (by show b - (i + 1) < b - i; omega)
      refine goS hB rfl rfl (by simp [conj, Fits_i64]; omega) ?_
      refine run_back ?_
      refine run_to hpin [0, 1] rfl rfl ?_ ih
      clear ih
      simp only [z0, z1]
      simp [conj, less_rfl, ren_fnr, renR_fnr]
      exact fun k _ => Less.of (swp_upd e i (a + (o - l)) k).symm
    · have ho : o < l := by simp at hc; omega
      have z0 : 0 + ((i : Nat) : Int).toNat = i := by omega
      have z1 : 0 + ((a : Int) + (o : Int)).toNat = a + (o) := by omega
      have ih := ih (i + 1, y, swp e i (a + (o))) ⟨by show a + l / 4 * 2 ≤ i + 1 + 1; omega, .step i (a + (o)) h2 (by omega) (by omega) (by omega) (by omega)⟩ (by show b - (i + 1) < b - i; omega)
      refine goS hB rfl rfl (by simp [conj, Fits_i64]; omega) ?_
      refine run_back ?_
      refine run_to hpin [0, 1] rfl rfl ?_ ih
      clear ih
      simp only [z0, z1]
      simp [conj, less_rfl, ren_fnr, renR_fnr]
      exact fun k _ => Less.of (swp_upd e i (a + (o)) k).symm
  · clear ih
    refine goS hB rfl rfl (by simp [conj]) ?_
    exact run_endC hpin e h2 [0] rfl rfl (by simp [conj]) rfl (by simp [conj, less_rfl, ren_fnr])
end Sx
end
