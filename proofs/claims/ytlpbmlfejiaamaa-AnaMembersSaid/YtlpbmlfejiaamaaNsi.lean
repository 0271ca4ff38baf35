/- partialInsertionSortOrdered. Conditions: as each theorem says. -/
import Derived.Test.YtlpbmlfejiaamaaNsb
set_option linter.unusedSimpArgs false
set_option linter.unusedVariables false
namespace Sx
open Go Go.Proofs
set_option maxRecDepth 100000
/-- What lies below a is less than all from a to b. -/
def Below0 (a b : Nat) (d : Dt) : Prop := 0 < a → ∀ k, a ≤ k → k < b → d (a - 1) < d k
theorem Below0.sw {a b : Nat} {d e : Dt} (h : Below0 a b d) (hs : SW a b d e) : Below0 a b e := fun ha => by
  rw [hs.out (a - 1) (.inl (by omega))]
  exact hs.all (d (a - 1) < ·) (h ha)
theorem srt_swp2 {a i j : Nat} {e : Dt} (h : Srt a i e) (hj : i + 1 ≤ j) : Srt a i (swp e j (j - 1)) := fun p q h1 h2 h3 => by
  unfold swp
  rw [if_neg (by omega), if_neg (by omega), if_neg (by omega), if_neg (by omega)]
  exact h p q h1 h2 h3
theorem srt_first {a i : Nat} {e : Dt} (h : Srt a i e) : SrtX a (i - 1) (i - 1) (swp e i (i - 1)) := fun p q h1 h2 h3 h4 => by
  unfold swp
  rw [if_neg (by omega), if_neg (by omega), if_neg (by omega), if_neg (by omega)]
  exact h p q h1 h2 (by omega)
theorem run_shareI {P : Program} {ro : Hp} {B : Base} {f : FuncId} {R : Ending → World → Prop} {N : Nat} {TD : List SI} {ι : Type} (I : ι → Prop) (c1 : ι → Nat → List SI → Cfg) {Q : Prop} (main : (∀ x, I x → Run P ro B f R (c1 x N TD)) → Q) (proof : ∀ x, I x → Run P ro B f R (c1 x N TD)) : Q := main proof
set_option maxHeartbeats 8000000 in
theorem partial_hc (n cap a b : Nat) (hab : a + 12 < b) (hb : b ≤ n) (hn : n < 1000000) (d : Dt) (hd : Below0 a b d) :
    HC Try.prog 94 [.sq 0 0 0 1 n .no, i64 a, i64 b] (rowD n cap d) [] 1 (fun z : Bool × Dt => SW a b d z.2 ∧ (z.1 = true → Srt a b z.2)) (fun z => ⟨.sb z.1, rowD n cap z.2, 1⟩) := by
  refine hc_of_run Try.func94 rfl (fun B hB hpin => ?_)
  refine goS hB rfl rfl (by simp [conj, Fits_i64]; omega) ?_
  refine run_loop ?_
  refine run_inv (ι := Nat × Nat × Dt) hpin (fun z => z.1 ≤ 5 ∧ a + 1 ≤ z.2.1 ∧ z.2.1 ≤ b ∧ SW a b d z.2.2 ∧ Srt a z.2.1 z.2.2) (fun z => 5 - z.1) (fun z => [(8, i64 z.1), (7, i64 z.2.1), (0, .sq 0 0 0 1 n .no), (1, i64 a), (2, i64 b), (6, .ff)]) (fun _ => []) (fun z => rowD n cap z.2.2) 1 (0, a + 1, d) ⟨Nat.zero_le _, Nat.le_refl _, by show a + 1 ≤ b; omega, .refl, fun p q g1 g2 g3 => by
      have g3 : q < a + 1 := g3
      omega⟩
    [0] rfl rfl (by simp [conj, less_rfl, ren_fnr]) ?_
  rintro ⟨t, i0, e0⟩ ⟨h1, h2, h3, h4, h5⟩ ih0
  have h1 : t ≤ 5 := h1
  refine goS hB rfl rfl (by simp [conj]) ?_
  refine run_cond rfl (fun hc => ?_) (fun hc => ?_)
  rotate_left
  · clear ih0
    refine goS hB rfl rfl (by simp [conj]) ?_
    exact run_retC hpin (false, e0) ⟨h4, fun q => by cases q⟩ [0] rfl rfl (by simp [conj]) rfl (by simp [conj, less_rfl, ren_fnr])
  have ht : t < 5 := by simp at hc; omega
  clear hc
  refine goS hB rfl rfl (by simp [conj]) ?_
  refine run_loop ?_
  refine run_inv (ι := Nat) hpin (fun i => a + 1 ≤ i ∧ i ≤ b ∧ Srt a i e0) (fun i => b - i) (fun i => [(7, i64 i), (8, i64 t), (0, .sq 0 0 0 1 n .no), (1, i64 a), (2, i64 b), (6, .ff)]) (fun _ => []) (fun _ => rowD n cap e0) 1 i0 ⟨h2, h3, h5⟩
    [0] rfl rfl (by simp [conj, less_rfl, ren_fnr]) ?_
  clear h2 h3 h5
  rintro i ⟨h2, h3, h5⟩ ih
  refine goS hB rfl rfl (by simp [conj, Fits_i64]; omega) ?_
  have x0 : 0 + ((i : Nat) : Int).toNat = i := by omega
  have x1 : 0 + (((i : Nat) : Int) - 1).toNat = i - 1 := by omega
  refine run_cond rfl (fun hc => ?_) (fun hc => ?_)
  · clear ih0
    rw [Bool.and_eq_true, decide_eq_true_iff, Bool.not_eq_true', decide_eq_false_iff_not] at hc
    rw [x0, x1] at hc
    obtain ⟨c1, c2⟩ := hc
    have c1 : i < b := by omega
    have ih := ih (i + 1) ⟨by omega, by omega, fun p q g1 g2 g3 => by
      by_cases e1 : q = i
      · subst e1
        by_cases e2 : p = q - 1
        · subst e2; omega
        · have := h5 p (q - 1) g1 (by omega) (by omega)
          omega
      · exact h5 p q g1 g2 (by omega)⟩ (by omega)
    refine goS hB rfl rfl (by simp [conj, Fits_i64]; omega) ?_
    refine run_back ?_
    refine run_to hpin [0] rfl rfl ?_ ih
    clear ih
    simp [conj, less_rfl, ren_fnr, renR_fnr]
  clear ih hc
  refine goS hB rfl rfl (by simp [conj]) ?_
  refine run_cond rfl (fun hc => ?_) (fun hc => ?_)
  · have hib : i = b := by simp at hc; omega
    subst hib
    refine goS hB rfl rfl (by simp [conj]) ?_
    exact run_retC hpin (true, e0) ⟨h4, fun _ => h5⟩ [0] rfl rfl (by simp [conj]) rfl (by simp [conj, less_rfl, ren_fnr])
  have hib : i < b := by simp at hc; omega
  clear hc
  refine goS hB rfl rfl (by simp [conj, Fits_i64]; omega) ?_
  refine run_cond rfl (fun hc => ?_) (fun hc => ?_)
  · refine goS hB rfl rfl (by simp [conj]) ?_
    exact run_retC hpin (false, e0) ⟨h4, fun q => by cases q⟩ [0] rfl rfl (by simp [conj]) rfl (by simp [conj, less_rfl, ren_fnr])
  clear hc
  refine goS hB rfl rfl (by simp [conj, Fits_i64]; omega) ?_
  rw [x0, x1]
  have hsw : SW a b d (swp e0 i (i - 1)) := .step i (i - 1) h4 (by omega) hib (by omega) (by omega)
  apply run_shareI (B := B) (fun f : Dt => SW a b d f ∧ Srt a i f) (fun f N TD => ⟨⟨fid 94, N, [(98, .sb (decide (2 ≤ (b : Int) - i))), (7, i64 i), (8, i64 t), (0, .sq 0 0 0 1 n .no), (1, i64 a), (2, i64 b), (6, .ff)], TD⟩, [], rowD n cap f, 1⟩)
  · intro next
    refine run_cond rfl (fun hc => ?_) (fun hc => ?_)
    · have hia : a + 2 ≤ i := by simp at hc; omega
      refine goS hB rfl rfl (by simp [conj, Fits_i64]; omega) ?_
      refine run_loop ?_
      refine run_inv (ι := Nat × Dt) hpin (fun z => a ≤ z.1 ∧ z.1 ≤ i - 1 ∧ SW a b d z.2 ∧ SrtX a (i - 1) z.1 z.2) (fun z => z.1) (fun z => [(9, i64 z.1), (7, i64 i), (8, i64 t), (0, .sq 0 0 0 1 n .no), (1, i64 a), (2, i64 b), (6, .ff)]) (fun _ => []) (fun z => rowD n cap z.2) 1 (i - 1, swp e0 i (i - 1)) ⟨by show a ≤ i - 1; omega, Nat.le_refl _, hsw, srt_first h5⟩
        [0] rfl rfl (by
          simp [conj, less_rfl, ren_fnr, renR_fnr]
          exact ⟨by omega, fun k _ => Less.of (swp_upd e0 i (i - 1) k).symm⟩) ?_
      rintro ⟨j, e⟩ ⟨j1, j2, j3, j4⟩ ihj
      have j1 : a ≤ j := j1
      have j2 : j ≤ i - 1 := j2
      have j3 : SW a b d e := j3
      refine goS hB rfl rfl (by simp [conj]) ?_
      have y0 : 0 + ((j : Nat) : Int).toNat = j := by omega
      have y1 : 1 ≤ j → 0 + (((j : Nat) : Int) - 1).toNat = j - 1 := by omega
      refine run_cond rfl (fun hc => ?_) (fun hc => ?_)
      · have hj1 : 1 ≤ j := by simp at hc; omega
        have y1 := y1 hj1
        refine goS hB rfl rfl (by simp [conj, Fits_i64]; omega) ?_
        refine run_cond rfl (fun hc2 => ?_) (fun hc2 => ?_)
        · clear ihj
          have hd2 : ¬ e j < e (j - 1) := by
            simp only [Bool.not_eq_true', decide_eq_false_iff_not] at hc2
            rwa [y0, y1] at hc2
          refine goS hB rfl rfl (by simp [conj, Fits_i64]; omega) ?_
          refine run_to hpin [0] rfl rfl ?_ (next e ⟨j3, by
            have := srtX_done j4 j1 j2 (.inr hd2)
            rwa [show i - 1 + 1 = i by omega] at this⟩)
          clear next
          simp [conj, less_rfl, ren_fnr, renR_fnr]
        · clear next
          have hd2 : e j < e (j - 1) := by
            simp only [Bool.not_eq_false', decide_eq_true_iff] at hc2
            rwa [y0, y1] at hc2
          have haj : a < j := by
            rcases Nat.lt_or_ge a j with q | q
            · exact q
            · have : j = a := by omega
              subst this
              have := hd.sw j3 (by omega) j (Nat.le_refl _) (by omega)
              omega
          have ihj := ihj (j - 1, swp e j (j - 1)) ⟨by show a ≤ j - 1; omega, by show j - 1 ≤ i - 1; omega, .step j (j - 1) j3 j1 (by omega) (by omega) (by omega), srtX_step j4 haj j2 hd2⟩ (by show j - 1 < j; omega)
          refine goS hB rfl rfl (by simp [conj, Fits_i64]; omega) ?_
          refine run_back ?_
          refine run_to hpin [0] rfl rfl ?_ ihj
          clear ihj
          simp only [y0, y1]
          simp [conj, less_rfl, ren_fnr, renR_fnr]
          exact ⟨by omega, fun k _ => Less.of (swp_upd e j (j - 1) k).symm⟩
      · clear ihj
        have hj0 : j = a := by simp at hc; omega
        refine goS hB rfl rfl (by simp [conj, Fits_i64]; omega) ?_
        refine run_to hpin [0] rfl rfl ?_ (next e ⟨j3, by
          have := srtX_done j4 j1 j2 (.inl hj0)
          rwa [show i - 1 + 1 = i by omega] at this⟩)
        clear next
        simp [conj, less_rfl, ren_fnr, renR_fnr]
    · have hia : i = a + 1 := by simp at hc; omega
      refine goS hB rfl rfl (by simp [conj, Fits_i64]; omega) ?_
      refine run_to hpin [0] rfl rfl ?_ (next (swp e0 i (i - 1)) ⟨hsw, fun p q g1 g2 g3 => by omega⟩)
      clear next
      simp [conj, less_rfl, ren_fnr, renR_fnr]
      exact fun k _ => Less.of (swp_upd e0 i (i - 1) k).symm
  clear hsw
  rintro f ⟨f1, f2⟩
  refine run_cond rfl (fun hc => ?_) (fun hc => ?_)
  · have f2' := f2
    refine goS hB rfl rfl (by simp [conj, Fits_i64]; omega) ?_
    refine run_loop ?_
    refine run_inv (ι := Nat × Dt) hpin (fun z => i + 1 ≤ z.1 ∧ SW a b d z.2 ∧ Srt a i z.2) (fun z => b - z.1) (fun z => [(10, i64 z.1), (7, i64 i), (8, i64 t), (0, .sq 0 0 0 1 n .no), (1, i64 a), (2, i64 b), (6, .ff)]) (fun _ => []) (fun z => rowD n cap z.2) 1 (i + 1, f) ⟨Nat.le_refl _, f1, f2'⟩
      [0] rfl rfl (by simp [conj, less_rfl, ren_fnr, renR_fnr]) ?_
    rintro ⟨j, e⟩ ⟨j1, j3, j4⟩ ihj
    have j1 : i + 1 ≤ j := j1
    refine goS hB rfl rfl (by simp [conj]) ?_
    have y0 : 0 + ((j : Nat) : Int).toNat = j := by omega
    have y1 : 0 + (((j : Nat) : Int) - 1).toNat = j - 1 := by omega
    refine run_cond rfl (fun hc => ?_) (fun hc => ?_)
    · have hjb : j < b := by simp at hc; omega
      refine goS hB rfl rfl (by simp [conj, Fits_i64]; omega) ?_
      refine run_cond rfl (fun hc2 => ?_) (fun hc2 => ?_)
      · clear ihj
        have ih0 := ih0 (t + 1, i, e) ⟨by show t + 1 ≤ 5; omega, h2, h3, j3, j4⟩ (by show 5 - (t + 1) < 5 - t; omega)
        refine goS hB rfl rfl (by simp [conj, Fits_i64]; omega) ?_
        refine run_back ?_
        refine run_to hpin [0] rfl rfl ?_ ih0
        clear ih0
        simp [conj, less_rfl, ren_fnr, renR_fnr]
      · clear ih0
        have ihj := ihj (j + 1, swp e j (j - 1)) ⟨by show i + 1 ≤ j + 1; omega, .step j (j - 1) j3 (by omega) hjb (by omega) (by omega), srt_swp2 j4 (by omega)⟩ (by show b - (j + 1) < b - j; omega)
        refine goS hB rfl rfl (by simp [conj, Fits_i64]; omega) ?_
        refine run_back ?_
        refine run_to hpin [0] rfl rfl ?_ ihj
        clear ihj
        simp only [y0, y1]
        simp [conj, less_rfl, ren_fnr, renR_fnr]
        exact fun k _ => Less.of (swp_upd e j (j - 1) k).symm
    · clear ihj
      have ih0 := ih0 (t + 1, i, e) ⟨by show t + 1 ≤ 5; omega, h2, h3, j3, j4⟩ (by show 5 - (t + 1) < 5 - t; omega)
      refine goS hB rfl rfl (by simp [conj, Fits_i64]; omega) ?_
      refine run_back ?_
      refine run_to hpin [0] rfl rfl ?_ ih0
      clear ih0
      simp [conj, less_rfl, ren_fnr, renR_fnr]
  · have ih0 := ih0 (t + 1, i, f) ⟨by show t + 1 ≤ 5; omega, h2, h3, f1, f2⟩ (by show 5 - (t + 1) < 5 - t; omega)
    refine goS hB rfl rfl (by simp [conj, Fits_i64]; omega) ?_
    refine run_back ?_
    refine run_to hpin [0] rfl rfl ?_ ih0
    clear ih0
    simp [conj, less_rfl, ren_fnr, renR_fnr]
end Sx
