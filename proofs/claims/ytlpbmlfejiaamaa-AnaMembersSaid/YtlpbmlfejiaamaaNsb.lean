/- insertionSortOrdered sorts. Conditions: as each theorem says. -/
import Derived.Test.YtlpbmlfejiaamaaNsa
set_option linter.unusedSimpArgs false
set_option linter.unusedVariables false
namespace Sx
open Go Go.Proofs
set_option maxRecDepth 100000
abbrev rowD (n cap : Nat) (d : Dt) : Hp := [(0, .row 0 n cap 1 (fnr d) 29)]
/-- All but the j-th are in order. -/
def SrtX (a i j : Nat) (d : Dt) : Prop := ∀ p q, a ≤ p → p < q → q ≤ i → q ≠ j → d p ≤ d q
theorem srtX_step {a i j : Nat} {d : Dt} (h : SrtX a i j d) (hj : a < j) (hji : j ≤ i) (hlt : d j < d (j - 1)) : SrtX a i (j - 1) (swp d j (j - 1)) := by
  intro p q h1 h2 h3 h4
  have hh := fun p q => h p q
  unfold swp
  by_cases q1 : q = j
  · subst q1
    rw [if_pos rfl]
    by_cases p1 : p = q - 1
    · rw [if_neg (by omega), if_pos p1]; omega
    · rw [if_neg (by omega), if_neg p1]
      exact h p (q - 1) h1 (by omega) (by omega) (by omega)
  · rw [if_neg q1, if_neg h4]
    by_cases p1 : p = j
    · rw [if_pos p1]
      exact h (j - 1) q (by omega) (by omega) h3 q1
    · by_cases p2 : p = j - 1
      · rw [if_neg p1, if_pos p2]
        by_cases q2 : q = j
        · omega
        · exact h j q (by omega) (by omega) h3 q1
      · rw [if_neg p1, if_neg p2]
        exact h p q h1 h2 h3 q1
theorem srtX_done {a i j : Nat} {d : Dt} (h : SrtX a i j d) (hj : a ≤ j) (hji : j ≤ i) (hd : j = a ∨ ¬ d j < d (j - 1)) : Srt a (i + 1) d := by
  intro p q h1 h2 h3
  by_cases e : q = j
  · subst e
    rcases hd with hd | hd
    · omega
    · by_cases p1 : p = q - 1
      · subst p1; omega
      · have := h p (q - 1) h1 (by omega) (by omega) (by omega)
        omega
  · exact h p q h1 h2 (by omega) e
set_option maxHeartbeats 2000000 in
theorem insertion_hc (n cap a b : Nat) (hab : a ≤ b) (hb : b ≤ n) (hn : n < 1000000) (d : Dt) :
    HC Try.prog 89 [.sq 0 0 0 1 n .no, i64 a, i64 b] (rowD n cap d) [] 1 (fun e : Dt => SW a b d e ∧ Srt a b e) (fun e => ⟨.tup [], rowD n cap e, 1⟩) := by
  refine hc_of_run Try.func89 rfl (fun B hB hpin => ?_)
  refine goS hB rfl rfl (by simp [conj, Fits_i64]; omega) ?_
  refine run_loop ?_
  refine run_inv (ι := Nat × Dt) hpin (fun z => a + 1 ≤ z.1 ∧ (z.1 ≤ b ∨ z.1 = a + 1) ∧ SW a b d z.2 ∧ Srt a z.1 z.2) (fun z => b - z.1) (fun z => [(6, i64 z.1), (0, .sq 0 0 0 1 n .no), (1, i64 a), (2, i64 b)]) (fun _ => []) (fun z => rowD n cap z.2) 1 (a + 1, d) ⟨Nat.le_refl _, .inr rfl, .refl, fun p q h1 h2 h3 => by omega⟩
    [0] rfl rfl (by simp [conj, less_rfl, ren_fnr]) ?_
  rintro ⟨i, e⟩ ⟨h1, h2, h3, h4⟩ ih
  refine goS hB rfl rfl (by simp [conj]) ?_
  refine run_cond rfl (fun h => ?_) (fun h => ?_)
  · have hi : i < b := by simpa using h
    refine goS hB rfl rfl (by simp [conj]) ?_
    refine run_loop ?_
    refine run_inv (ι := Nat × Dt) hpin (fun z => a ≤ z.1 ∧ z.1 ≤ i ∧ SW a b d z.2 ∧ SrtX a i z.1 z.2) (fun z => z.1) (fun z => [(7, i64 z.1), (6, i64 i), (0, .sq 0 0 0 1 n .no), (1, i64 a), (2, i64 b)]) (fun _ => []) (fun z => rowD n cap z.2) 1 (i, e) ⟨by show a ≤ i; omega, Nat.le_refl _, h3, fun p q g1 g2 g3 g4 => h4 p q g1 g2 (by show q < i; have : q ≤ i := g3; have : q ≠ i := g4; omega)⟩
      [0] rfl rfl (by simp [conj, less_rfl, ren_fnr]) ?_
    rintro ⟨j, f⟩ ⟨g1, g2, g3, g4⟩ ihj
    refine goS hB rfl rfl (by simp [conj, Fits_i64]; omega) ?_
    have e1 : 0 + ((j : Nat) : Int).toNat = j := by omega
    have e2 : a < j → 0 + (((j : Nat) : Int) - 1).toNat = j - 1 := by omega
    refine run_cond rfl (fun hc => ?_) (fun hc => ?_)
    · clear ih
      have ⟨c1, c2⟩ : a < j ∧ f j < f (j - 1) := by
        rw [Bool.and_eq_true, decide_eq_true_iff, decide_eq_true_iff] at hc
        have c1 : a < j := by have := hc.1; simp at this; omega
        refine ⟨c1, ?_⟩
        have := hc.2
        simp only at this
        rwa [e1, e2 c1] at this
      have e2 := e2 c1
      have ihj := ihj (j - 1, swp f j (j - 1)) ⟨by show a ≤ j - 1; omega, by show j - 1 ≤ i; omega, .step j (j - 1) g3 (by omega) (by omega) (by omega) (by omega), srtX_step g4 c1 g2 c2⟩ (by show j - 1 < j; omega)
      refine goS hB rfl rfl (by simp [conj, Fits_i64]; omega) ?_
      refine run_back ?_
      refine run_to hpin [0] rfl rfl ?_ ihj
      clear ihj
      simp [conj, less_rfl, ren_fnr, renR_fnr]
      exact ⟨by omega, fun i _ => Less.of (swp_upd f j (j - 1) i).symm⟩
    · clear ihj
      have ih := ih (i + 1, f) ⟨by show a + 1 ≤ i + 1; omega, .inl (by show i + 1 ≤ b; omega), g3, srtX_done g4 g1 g2 (by
        rcases Nat.lt_or_ge a j with c1 | c1
        · right
          intro hlt
          rcases Bool.and_eq_false_iff.1 hc with hc | hc
          · simp at hc; omega
          · rw [decide_eq_false_iff_not] at hc
            simp only at hc
            rw [e1, e2 c1] at hc
            exact hc hlt
        · left; omega)⟩ (by show b - (i + 1) < b - i; omega)
      refine goS hB rfl rfl (by simp [conj, Fits_i64]; omega) ?_
      refine run_back ?_
      refine run_to hpin [0] rfl rfl ?_ ih
      clear ih
      simp [conj, less_rfl, ren_fnr, renR_fnr]
  · clear ih
    refine goS hB rfl rfl (by simp [conj]) ?_
    refine run_endC hpin e ⟨h3, fun p q g1 g2 g3 => h4 p q g1 g2 (by show q < i; simp at h; omega)⟩ [0] rfl rfl (by simp [conj]) rfl (by simp [conj, less_rfl, ren_fnr])
end Sx
