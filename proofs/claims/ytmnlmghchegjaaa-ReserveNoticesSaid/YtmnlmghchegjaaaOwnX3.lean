/- Texts of this law, joined: what the functions do. Conditions: as each theorem says. -/
import Derived.Test.YtmnlmghchegjaaaOwnX1
import Derived.Test.YtmnlmghchegjaaaOwnX2
set_option linter.unusedSimpArgs false
set_option linter.unusedVariables false
section
/- siftDownOrdered, heapSortOrdered sort. Conditions: as each theorem says. -/
namespace Sx
open Go Go.Proofs
set_option maxRecDepth 100000
/-- From lo on no child is greater. -/
def Heap (lo hi f : Nat) (e : Dt) : Prop := ∀ k c, lo ≤ k → (c = 2 * k + 1 ∨ c = 2 * k + 2) → c < hi → e (f + c) ≤ e (f + k)
structure Sift (lo hi f r : Nat) (d e : Dt) : Prop where
  sw : SW (f + lo) (f + hi) d e
  lr : lo ≤ r
  one : ∀ k c, lo ≤ k → k ≠ r → (c = 2 * k + 1 ∨ c = 2 * k + 2) → c < hi → e (f + c) ≤ e (f + k)
  two : ∀ k c, lo ≤ k → (r = 2 * k + 1 ∨ r = 2 * k + 2) → (c = 2 * r + 1 ∨ c = 2 * r + 2) → c < hi → e (f + c) ≤ e (f + k)
theorem Sift.start {lo hi f : Nat} {d : Dt} (h : Heap (lo + 1) hi f d) : Sift lo hi f lo d d :=
  ⟨.refl, Nat.le_refl _, fun k c h1 h2 h3 h4 => h k c (by omega) h3 h4, fun k c h1 h2 h3 h4 => by omega⟩
theorem Sift.leaf {lo hi f r : Nat} {d e : Dt} (h : Sift lo hi f r d e) (hr : hi ≤ 2 * r + 1) : Heap lo hi f e := fun k c h1 h2 h3 => by
  by_cases q : k = r
  · omega
  · exact h.one k c h1 q h2 h3
theorem Sift.stop {lo hi f r c : Nat} {d e : Dt} (h : Sift lo hi f r d e) (hm : ∀ c', (c' = 2 * r + 1 ∨ c' = 2 * r + 2) → c' < hi → e (f + c') ≤ e (f + c)) (hs : e (f + c) ≤ e (f + r)) : Heap lo hi f e := fun k c' h1 h2 h3 => by
  by_cases q : k = r
  · subst q
    have := hm c' h2 h3
    omega
  · exact h.one k c' h1 q h2 h3
theorem Sift.down {lo hi f r c : Nat} {d e : Dt} (h : Sift lo hi f r d e) (hc : c = 2 * r + 1 ∨ c = 2 * r + 2) (hch : c < hi) (hm : ∀ c', (c' = 2 * r + 1 ∨ c' = 2 * r + 2) → c' < hi → e (f + c') ≤ e (f + c)) (hs : e (f + r) < e (f + c)) :
    Sift lo hi f c d (swp e (f + r) (f + c)) := by
  have lr := h.lr
  refine ⟨.step _ _ h.sw (by omega) (by omega) (by omega) (by omega), by omega, fun k c' h1 h2 h3 h4 => ?_, fun k c' h1 h2 h3 h4 => ?_⟩
  · unfold swp
    by_cases q : k = r
    · subst q
      rw [if_pos (show f + k = f + k from rfl)]
      by_cases q2 : c' = c
      · subst q2
        rw [if_neg (by omega), if_pos rfl]; omega
      · rw [if_neg (by omega), if_neg (by omega)]
        exact hm c' h3 h4
    · rw [if_neg (show ¬ f + k = f + r by omega), if_neg (show ¬ f + k = f + c by omega)]
      by_cases q2 : c' = r
      · subst q2
        rw [if_pos rfl]
        exact h.two k c h1 h3 hc hch
      · rw [if_neg (by omega), if_neg (by omega)]
        exact h.one k c' h1 q h3 h4
  · have hkr : k = r := by omega
    subst hkr
    unfold swp
    rw [if_neg (show ¬ f + c' = f + k by omega), if_neg (show ¬ f + c' = f + c by omega), if_pos rfl]
    exact h.one c c' (by omega) (by omega) h3 h4
theorem Heap.root {hi f : Nat} {e : Dt} (h : Heap 0 hi f e) : ∀ k, k < hi → e (f + k) ≤ e f := by
  intro k
  induction k using Nat.strongRecOn with
  | ind k ih =>
    intro hk
    rcases Nat.eq_zero_or_pos k with h0 | h0
    · subst h0; exact Int.le_refl _
    · have := ih ((k - 1) / 2) (by omega) (by omega)
      have h2 := h ((k - 1) / 2) k (Nat.zero_le _) (by omega) hk
      omega
set_option maxHeartbeats 4000000 in
theorem sift_hc (n cap lo hi f : Nat) (hf : f + hi ≤ n) (hlo : lo < 1000000) (hn : n < 1000000) (d : Dt) (hd : Heap (lo + 1) hi f d) :
    HC Try.prog 101 [.sq 0 0 0 1 n .no, i64 lo, i64 hi, i64 f] (rowD n cap d) [] 1 (fun e : Dt => SW (f + lo) (f + hi) d e ∧ Heap lo hi f e) (fun e => ⟨.tup [], rowD n cap e, 1⟩) := by
  refine hc_of_run Try.func101 rfl (fun B hB hpin => ?_)
  refine goS hB rfl rfl (by simp [conj]) ?_
  refine run_loop ?_
  refine run_inv (ι := Nat × Dt) hpin (fun z => Sift lo hi f z.1 d z.2 ∧ z.1 < 1000000) (fun z => hi - z.1) (fun z => [(8, i64 z.1), (0, .sq 0 0 0 1 n .no), (2, i64 hi), (3, i64 f)]) (fun _ => []) (fun z => rowD n cap z.2) 1 (lo, d) ⟨.start hd, hlo⟩
    [0] rfl rfl (by simp [conj, less_rfl, ren_fnr]) ?_
  rintro ⟨r, e⟩ ⟨hS, hr⟩ ih
  have hS : Sift lo hi f r d e := hS
  have hr : r < 1000000 := hr
  have lr := hS.lr
  refine goS hB rfl rfl (by simp [conj, Fits_i64]; omega) ?_
  refine run_cond rfl (fun hc => ?_) (fun hc => ?_)
  · clear ih
    refine goS hB rfl rfl (by simp [conj]) ?_
    refine run_endC hpin e ⟨hS.sw, hS.leaf (by simp at hc; omega)⟩ [0] rfl rfl (by simp [conj]) rfl (by simp [conj, less_rfl, ren_fnr])
  have hch : 2 * r + 1 < hi := by simp at hc; omega
  clear hc
  refine goS hB rfl rfl (by simp [conj, Fits_i64]; omega) ?_
  have x1 : 0 + ((f : Int) + (2 * (r : Int) + 1)).toNat = f + (2 * r + 1) := by omega
  have x2 : 0 + ((f : Int) + (2 * (r : Int) + 1) + 1).toNat = f + (2 * r + 2) := by omega
  refine run_cond rfl (fun hc => ?_) (fun hc => ?_)
  · have ⟨c1, c2⟩ : 2 * r + 2 < hi ∧ e (f + (2 * r + 1)) < e (f + (2 * r + 2)) := by
      rw [Bool.and_eq_true, decide_eq_true_iff, decide_eq_true_iff] at hc
      simp only at hc
      rw [x1, x2] at hc
      exact ⟨by have := hc.1; omega, hc.2⟩
    clear hc
    have hm : ∀ c', (c' = 2 * r + 1 ∨ c' = 2 * r + 2) → c' < hi → e (f + c') ≤ e (f + (2 * r + 2)) := by
      rintro c' (rfl | rfl) _ <;> omega
    refine goS hB rfl rfl (by simp [conj, Fits_i64]; omega) ?_
    have y1 : 0 + ((f : Int) + (r : Int)).toNat = f + r := by omega
    have y2 : 0 + ((f : Int) + (2 * (r : Int) + 1 + 1)).toNat = f + (2 * r + 2) := by omega
    have hcr : 2 * r + 2 = 2 * r + 1 ∨ 2 * r + 2 = 2 * r + 2 := by omega
    refine run_cond rfl (fun h2 => ?_) (fun h2 => ?_)
    · clear ih
      have h2 : ¬ e (f + r) < e (f + (2 * r + 2)) := by
        simp only [Bool.not_eq_true', decide_eq_false_iff_not] at h2
        rwa [y1, y2] at h2
      exact run_retC hpin e ⟨hS.sw, hS.stop hm (by omega)⟩ [0] rfl rfl (by simp [conj]) rfl (by simp [conj, less_rfl, ren_fnr])
    · have h2 : e (f + r) < e (f + (2 * r + 2)) := by
        simp only [Bool.not_eq_false', decide_eq_true_iff] at h2
        rwa [y1, y2] at h2
      have ih := ih (2 * r + 2, swp e (f + r) (f + (2 * r + 2))) ⟨hS.down hcr (by omega) hm h2, by show 2 * r + 2 < 1000000; omega⟩ (by show hi - (2 * r + 2) < hi - r; omega)
      refine goS hB rfl rfl (by simp [conj, Fits_i64]; omega) ?_
      refine run_back ?_
      refine run_to hpin [0] rfl rfl ?_ ih
      clear ih
      simp only [y1, y2]
      simp [conj, less_rfl, ren_fnr, renR_fnr]
      first | exact fun k _ => Less.of (swp_upd e (f + r) (f + (2 * r + 2)) k).symm | exact ⟨by omega, fun k _ => Less.of (swp_upd e (f + r) (f + (2 * r + 2)) k).symm⟩
  · have hm : ∀ c', (c' = 2 * r + 1 ∨ c' = 2 * r + 2) → c' < hi → e (f + c') ≤ e (f + (2 * r + 1)) := by
      rintro c' (rfl | rfl) h3
      · exact Int.le_refl _
      · rcases Bool.and_eq_false_iff.1 hc with hc | hc
        · simp at hc; omega
        · rw [decide_eq_false_iff_not] at hc
          simp only at hc
          rw [x1, x2] at hc
          omega
    clear hc
    refine goS hB rfl rfl (by simp [conj, Fits_i64]; omega) ?_
    have y1 : 0 + ((f : Int) + (r : Int)).toNat = f + r := by omega
    have y2 : 0 + ((f : Int) + (2 * (r : Int) + 1)).toNat = f + (2 * r + 1) := by omega
    have hcr : 2 * r + 1 = 2 * r + 1 ∨ 2 * r + 1 = 2 * r + 2 := by omega
    refine run_cond rfl (fun h2 => ?_) (fun h2 => ?_)
    · clear ih
      have h2 : ¬ e (f + r) < e (f + (2 * r + 1)) := by
        simp only [Bool.not_eq_true', decide_eq_false_iff_not] at h2
        rwa [y1, y2] at h2
      exact run_retC hpin e ⟨hS.sw, hS.stop hm (by omega)⟩ [0] rfl rfl (by simp [conj]) rfl (by simp [conj, less_rfl, ren_fnr])
    · have h2 : e (f + r) < e (f + (2 * r + 1)) := by
        simp only [Bool.not_eq_false', decide_eq_true_iff] at h2
        rwa [y1, y2] at h2
      have ih := ih (2 * r + 1, swp e (f + r) (f + (2 * r + 1))) ⟨hS.down hcr (by omega) hm h2, by show 2 * r + 1 < 1000000; omega⟩ (by show hi - (2 * r + 1) < hi - r; omega)
      refine goS hB rfl rfl (by simp [conj, Fits_i64]; omega) ?_
      refine run_back ?_
      refine run_to hpin [0] rfl rfl ?_ ih
      clear ih
      simp only [y1, y2]
      simp [conj, less_rfl, ren_fnr, renR_fnr]
      first | exact fun k _ => Less.of (swp_upd e (f + r) (f + (2 * r + 1)) k).symm | exact ⟨by omega, fun k _ => Less.of (swp_upd e (f + r) (f + (2 * r + 1)) k).symm⟩
/-- Under way: from m on all is in place. -/
structure HSt (a b m : Nat) (d e : Dt) : Prop where
  sw : SW a b d e
  hp : Heap 0 m a e
  mb : a + m ≤ b
  lo : ∀ p q, p < m → m ≤ q → a + q < b → e (a + p) ≤ e (a + q)
  hi : ∀ p q, m ≤ p → p < q → a + q < b → e (a + p) ≤ e (a + q)
theorem HSt.pre {a b m : Nat} {d e : Dt} (h : HSt a b (m + 1) d e) : Heap 1 m a (swp e a (a + m)) := fun k c h1 h2 h3 => by
  unfold swp
  rw [if_neg (by omega), if_neg (by omega), if_neg (by omega), if_neg (by omega)]
  exact h.hp k c (by omega) h2 (by omega)
theorem HSt.next {a b m : Nat} {d e g : Dt} (h : HSt a b (m + 1) d e) (hs : SW (a + 0) (a + m) (swp e a (a + m)) g) (hg : Heap 0 m a g) : HSt a b m d g := by
  have mb := h.mb
  have hr := h.hp.root
  have key : ∀ Q : Int → Prop, (∀ k, k < m + 1 → Q (e (a + k))) → ∀ p, p < m → Q (g (a + p)) := by
    intro Q hQ p hp
    refine hs.all Q (fun k k1 k2 => ?_) (a + p) (by omega) (by omega)
    unfold swp
    split
    · exact hQ m (by omega)
    · split
      · omega
      · have := hQ (k - a) (by omega)
        rwa [show a + (k - a) = k by omega] at this
  have hm : g (a + m) = e a := by
    rw [hs.out (a + m) (.inr (Nat.le_refl _))]
    unfold swp
    by_cases q : a + m = a
    · rw [if_pos q, q]
    · rw [if_neg q, if_pos rfl]
  have hq : ∀ q, m < q → g (a + q) = e (a + q) := by
    intro q h1
    rw [hs.out (a + q) (.inr (by omega))]
    unfold swp
    rw [if_neg (by omega), if_neg (by omega)]
  refine ⟨h.sw.trans ((SW.step a (a + m) .refl (Nat.le_refl _) (by omega) (by omega) (by omega)).trans (hs.mono (by omega) (by omega))), hg, by omega, fun p q h1 h2 h3 => ?_, fun p q h1 h2 h3 => ?_⟩
  · by_cases e1 : q = m
    · subst e1
      rw [hm]
      exact key (· ≤ e a) (fun k hk => hr k hk) p h1
    · rw [hq q (by omega)]
      exact key (· ≤ e (a + q)) (fun k hk => h.lo k q hk (by omega) h3) p h1
  · rw [hq q (by omega)]
    by_cases e1 : p = m
    · subst e1
      rw [hm]
      exact h.lo 0 q (by omega) (by omega) h3
    · rw [hq p (by omega)]
      exact h.hi p q (by omega) h2 h3
set_option maxHeartbeats 4000000 in
theorem heap_hc (n cap a b : Nat) (hab : a < b) (hb : b ≤ n) (hn : n < 1000000) (d : Dt) :
    HC Try.prog 91 [.sq 0 0 0 1 n .no, i64 a, i64 b] (rowD n cap d) [] 1 (fun e : Dt => SW a b d e ∧ Srt a b e) (fun e => ⟨.tup [], rowD n cap e, 1⟩) := by
  refine hc_of_run Try.func91 rfl (fun B hB hpin => ?_)
  refine goS hB rfl rfl (by simp [conj, Fits_i64]; omega) ?_
  refine run_loop ?_
  refine run_inv (ι := Nat × Dt) hpin (fun z => SW a b d z.2 ∧ Heap z.1 (b - a) a z.2 ∧ z.1 ≤ b - a) (fun z => z.1) (fun z => [(9, i64 ((z.1 : Int) - 1)), (8, i64 (b - a : Nat)), (7, i64 0), (6, i64 a), (0, .sq 0 0 0 1 n .no)]) (fun _ => []) (fun z => rowD n cap z.2) 1 ((b - a - 1) / 2 + 1, d) ⟨.refl, fun k c h1 h2 h3 => by
      have h1 : (b - a - 1) / 2 + 1 ≤ k := h1
      omega, by show (b - a - 1) / 2 + 1 ≤ b - a; omega⟩
    [0] rfl rfl (by simp [conj, less_rfl, ren_fnr]; omega) ?_
  rintro ⟨m, e⟩ ⟨h1, h2, h3⟩ ih
  have h2 : Heap m (b - a) a e := h2
  have h3 : m ≤ b - a := h3
  refine goS hB rfl rfl (by simp [conj]) ?_
  refine run_cond rfl (fun hc => ?_) (fun hc => ?_)
  · have hm : 1 ≤ m := by simp at hc; omega
    refine goS hB rfl rfl (by simp [conj]) ?_
    refine run_callC (sift_hc n cap (m - 1) (b - a) a (by omega) (by omega) hn e (by rw [show m - 1 + 1 = m by omega]; exact h2)) named hB [0] rfl rfl rfl rfl (by simp [conj]) (by simp [conj, less_rfl, ren_fnr]; omega) ?_
    rintro g ⟨g1, g2⟩
    refine ⟨show 1 ≤ 1 by omega, _, _, _, rfl, rfl, rfl, ?_⟩
    have ih := ih (m - 1, g) ⟨h1.trans (g1.mono (by omega) (by omega)), g2, by show m - 1 ≤ b - a; omega⟩ (by show m - 1 < m; omega)
    refine goS hB rfl rfl (by simp [conj, Fits_i64]; omega) ?_
    refine run_back ?_
    refine run_to hpin [0] rfl rfl ?_ ih
    clear ih
    simp [conj, less_rfl, ren_fnr, renR_fnr]
    omega
  clear ih
  have hm : m = 0 := by simp at hc; omega
  subst hm
  clear hc h3
  refine goS hB rfl rfl (by simp [conj, Fits_i64]; omega) ?_
  refine run_loop ?_
  refine run_inv (ι := Nat × Dt) hpin (fun z => HSt a b z.1 d z.2) (fun z => z.1) (fun z => [(10, i64 ((z.1 : Int) - 1)), (7, i64 0), (6, i64 a), (0, .sq 0 0 0 1 n .no)]) (fun _ => []) (fun z => rowD n cap z.2) 1 (b - a, e) ⟨h1, h2, by show a + (b - a) ≤ b; omega, fun p q g1 g2 g3 => by
      have g2 : b - a ≤ q := g2
      omega, fun p q g1 g2 g3 => by
      have g1 : b - a ≤ p := g1
      omega⟩
    [0] rfl rfl (by simp [conj, less_rfl, ren_fnr]; try omega) ?_
  clear h1 h2
  rintro ⟨m, e⟩ hS ih
  have hS : HSt a b m d e := hS
  have mb := hS.mb
  refine goS hB rfl rfl (by simp [conj]) ?_
  refine run_cond rfl (fun hc => ?_) (fun hc => ?_)
  · have hm : 1 ≤ m := by simp at hc; omega
    obtain ⟨m, rfl⟩ : ∃ m', m = m' + 1 := ⟨m - 1, by omega⟩
    refine goS hB rfl rfl (by simp [conj, Fits_i64]; omega) ?_
    refine run_callC (sift_hc n cap 0 m a (by omega) (by decide) hn (swp e a (a + m)) hS.pre) named hB [0] rfl rfl rfl rfl (by simp [conj]) (by
      simp [conj, less_rfl, ren_fnr, renR_fnr]
      rw [show ((a : Int) + (m : Int)).toNat = a + m by omega]
      exact fun k _ => Less.of (swp_upd e a (a + m) k).symm) ?_
    rintro g ⟨g1, g2⟩
    refine ⟨show 1 ≤ 1 by omega, _, _, _, rfl, rfl, rfl, ?_⟩
    have ih := ih (m, g) (hS.next g1 g2) (by show m < m + 1; omega)
    refine goS hB rfl rfl (by simp [conj, Fits_i64]; omega) ?_
    refine run_back ?_
    refine run_to hpin [0] rfl rfl ?_ ih
    clear ih
    simp [conj, less_rfl, ren_fnr, renR_fnr]
    try omega
  · clear ih
    have hm : m = 0 := by simp at hc; omega
    subst hm
    refine goS hB rfl rfl (by simp [conj]) ?_
    refine run_endC hpin e ⟨hS.sw, fun p q g1 g2 g3 => ?_⟩ [0] rfl rfl (by simp [conj]) rfl (by simp [conj, less_rfl, ren_fnr])
    have := hS.hi (p - a) (q - a) (by omega) (by omega) (by omega)
    rwa [show a + (p - a) = p by omega, show a + (q - a) = q by omega] at this
end Sx
end
section
/- pdqsortOrdered sorts keys of which none comes twice. Conditions: as each theorem says. -/
namespace Sx
open Go Go.Proofs
set_option maxRecDepth 100000
/-- In order but for pairs between p and q. -/
def Out2 (a b p q : Nat) (e : Dt) : Prop := ∀ i j, a ≤ i → i < j → j < b → ¬ (p ≤ i ∧ j < q) → e i ≤ e j
theorem Out2.sw {a b p q : Nat} {e g : Dt} (h : Out2 a b p q e) (hp : a ≤ p) (hq : q ≤ b) (hs : SW p q e g) : Out2 a b p q g := fun i j h1 h2 h3 h4 => by
  by_cases hi : p ≤ i ∧ i < q
  · have hj : q ≤ j := by omega
    rw [hs.out j (.inr hj)]
    exact hs.all (· ≤ e j) (fun k k1 k2 => h k j (by omega) (by omega) h3 (by omega)) i hi.1 hi.2
  · rw [hs.out i (by omega)]
    by_cases hj : p ≤ j ∧ j < q
    · exact hs.all (e i ≤ ·) (fun k k1 k2 => h i k h1 (by omega) (by omega) (by omega)) j hj.1 hj.2
    · rw [hs.out j (by omega)]
      exact h i j h1 h2 h3 h4
theorem Out2.join {a b p q : Nat} {g : Dt} (h : Out2 a b p q g) (hs : Srt p q g) : Srt a b g := fun i j h1 h2 h3 => by
  by_cases c : p ≤ i ∧ j < q
  · exact hs i j c.1 h2 c.2
  · exact h i j h1 h2 h3 c
theorem Part.left {a b m : Nat} {e g : Dt} (h : Part a b m e) (hs : SW a m e g) : Part a b m g := ⟨fun k h1 h2 => by
  rw [hs.out m (.inr (Nat.le_refl _))]
  exact hs.all (· ≤ e m) h.1 k h1 h2, fun k h1 h2 => by
  rw [hs.out m (.inr (Nat.le_refl _)), hs.out k (.inr (by omega))]
  exact h.2 k h1 h2⟩
theorem Part.right {a b m : Nat} {e g : Dt} (h : Part a b m e) (hs : SW (m + 1) b e g) : Part a b m g := ⟨fun k h1 h2 => by
  rw [hs.out m (.inl (by omega)), hs.out k (.inl (by omega))]
  exact h.1 k h1 h2, fun k h1 h2 => by
  rw [hs.out m (.inl (by omega))]
  exact hs.all (e m ≤ ·) (fun k k1 k2 => h.2 k (by omega) k2) k (by omega) h2⟩
theorem Out2.left {a b p q m : Nat} {g : Dt} (h : Out2 a b p q g) (hm : p ≤ m) (hmq : m < q) (hP : Part p q m g) (hs : Srt p m g) : Out2 a b (m + 1) q g := fun i j h1 h2 h3 h4 => by
  by_cases c : p ≤ i ∧ j < q
  · have him : i ≤ m := by omega
    rcases Nat.lt_trichotomy j m with c1 | c1 | c1
    · exact hs i j c.1 h2 c1
    · subst c1; exact hP.1 i c.1 h2
    · by_cases c2 : i = m
      · subst c2; exact hP.2 j c1 c.2
      · have := hP.1 i c.1 (by omega)
        have := hP.2 j c1 c.2
        omega
  · exact h i j h1 h2 h3 c
theorem Out2.right {a b p q m : Nat} {g : Dt} (h : Out2 a b p q g) (hm : p ≤ m) (hmq : m < q) (hP : Part p q m g) (hs : Srt (m + 1) q g) : Out2 a b p m g := fun i j h1 h2 h3 h4 => by
  by_cases c : p ≤ i ∧ j < q
  · rcases Nat.lt_trichotomy i m with c1 | c1 | c1
    · rcases Nat.lt_trichotomy j m with c2 | c2 | c2
      · omega
      · subst c2; exact hP.1 i c.1 h2
      · have := hP.1 i c.1 c1
        have := hP.2 j c2 c.2
        omega
    · subst c1; exact hP.2 j h2 c.2
    · exact hs i j (by omega) h2 c.2
  · exact h i j h1 h2 h3 c
theorem Inj.sub {a b p q : Nat} {e : Dt} (h : Inj a b e) (hp : a ≤ p) (hq : q ≤ b) : Inj p q e := fun i j h1 h2 h3 h4 he => h i j (by omega) (by omega) (by omega) (by omega) he
/-- The state of the loop. -/
structure PSt (a b p q : Nat) (d e : Dt) : Prop where
  ap : a ≤ p
  pq : p ≤ q
  qb : q ≤ b
  sw : SW a b d e
  inj : Inj a b e
  below : Below0 p q e
  out : Out2 a b p q e
theorem PSt.swap {a b p q : Nat} {d e g : Dt} (h : PSt a b p q d e) (hs : SW p q e g) : PSt a b p q d g :=
  ⟨h.ap, h.pq, h.qb, h.sw.trans (hs.mono h.ap h.qb), hs.inj h.ap h.qb h.inj, h.below.sw hs, h.out.sw h.ap h.qb hs⟩
theorem PSt.fin {a b p q : Nat} {d e g : Dt} (h : PSt a b p q d e) (hs : SW p q e g) (hg : Srt p q g) : SW a b d g ∧ Srt a b g :=
  ⟨(h.swap hs).sw, (h.swap hs).out.join hg⟩
theorem PSt.left {a b p q m : Nat} {d e g : Dt} (h : PSt a b p q d e) (hm : p ≤ m) (hmq : m < q) (hP : Part p q m e) (hs : SW p m e g) (hg : Srt p m g) : PSt a b (m + 1) q d g := by
  have h' := h.swap (hs.mono (Nat.le_refl _) (by omega))
  have hP' := hP.left hs
  have := h.ap
  have := h.qb
  refine ⟨by omega, by omega, h.qb, h'.sw, h'.inj, fun _ k k1 k2 => ?_, h'.out.left hm hmq hP' hg⟩
  rw [show m + 1 - 1 = m by omega]
  have h1 := hP'.2 k (by omega) k2
  have h2 : g m ≠ g k := fun he => by
    have := h'.inj m k (by omega) (by omega) (by omega) (by omega) he
    omega
  omega
theorem PSt.right {a b p q m : Nat} {d e g : Dt} (h : PSt a b p q d e) (hm : p ≤ m) (hmq : m < q) (hP : Part p q m e) (hs : SW (m + 1) q e g) (hg : Srt (m + 1) q g) : PSt a b p m d g := by
  have h' := h.swap (hs.mono (by omega) (Nat.le_refl _))
  have hP' := hP.right hs
  have := h.ap
  have := h.qb
  exact ⟨h.ap, hm, by omega, h'.sw, h'.inj, fun h0 k k1 k2 => h'.below h0 k k1 (by omega), h'.out.right hm hmq hP' hg⟩
theorem test_below {p q v : Nat} {g : Dt} (h : Below0 p q g) (h1 : p ≤ v) (h2 : v < q) : (decide (0 < (p : Int)) && !decide (g (0 + ((p : Int) - 1).toNat) < g (0 + (v : Int).toNat))) = false := by
  rcases Nat.eq_zero_or_pos p with h0 | h0
  · subst h0; rfl
  · have := h h0 v h1 h2
    rw [show 0 + ((p : Int) - 1).toNat = p - 1 by omega, show 0 + (v : Int).toNat = v by omega]
    simp [this]
set_option maxHeartbeats 16000000 in
theorem pdq_hc (n cap : Nat) (hn : n < 129) : ∀ (s a b lim : Nat) (d : Dt), b - a < s → a ≤ b → b ≤ n → lim < 1000 → Inj a b d → Below0 a b d →
    HC Try.prog 88 [.sq 0 0 0 1 n .no, i64 a, i64 b, i64 lim] (rowD n cap d) [] 1 (fun e : Dt => SW a b d e ∧ Srt a b e) (fun e => ⟨.tup [], rowD n cap e, 1⟩)
  | 0, a, b, lim, d, hs, _, _, _, _, _ => absurd hs (Nat.not_lt_zero _)
  | s + 1, a, b, lim, d, hs, hab, hb, hlim, hinj, hbel => by
    have IH := pdq_hc n cap hn s
    refine hc_of_run Try.func88 rfl (fun B hB hpin => ?_)
    refine goS hB rfl rfl (by simp [conj]) ?_
    refine run_loop ?_
    refine run_inv (ι := (Nat × Nat × Nat) × Bool × Bool × Dt) hpin (fun z => PSt a b z.1.1 z.1.2.1 d z.2.2.2 ∧ z.1.2.2 < 1000) (fun z => z.1.2.1 - z.1.1) (fun z => [(8, .sb z.2.1), (9, .sb z.2.2.1), (0, .sq 0 0 0 1 n .no), (1, i64 z.1.1), (2, i64 z.1.2.1), (3, i64 z.1.2.2)]) (fun _ => []) (fun z => rowD n cap z.2.2.2) 1 ((a, b, lim), true, true, d) ⟨⟨Nat.le_refl _, hab, Nat.le_refl _, .refl, hinj, hbel, fun i j h1 h2 h3 h4 => absurd ⟨h1, h3⟩ h4⟩, hlim⟩
      [0] rfl rfl (by simp [conj, less_rfl, ren_fnr]) ?_
    clear hinj hbel hlim
    rintro ⟨⟨p, q, lm⟩, wb, wp, e⟩ ⟨hS, hl⟩ ih
    have hS : PSt a b p q d e := hS
    have hl : lm < 1000 := hl
    have ap := hS.ap
    have pq := hS.pq
    have qb := hS.qb
    refine goS hB rfl rfl (by simp [conj, Fits_i64]; omega) ?_
    refine run_cond rfl (fun hc => ?_) (fun hc => ?_)
    · clear ih IH
      refine goS hB rfl rfl (by simp [conj]) ?_
      refine run_callC (insertion_hc n cap p q pq (by omega) (by omega) e) named hB [0] rfl rfl rfl rfl (by simp [conj]) (by simp [conj, less_rfl, ren_fnr]) ?_
      rintro g ⟨g1, g2⟩
      refine ⟨show 1 ≤ 1 by omega, _, _, _, rfl, rfl, rfl, ?_⟩
      refine goS hB rfl rfl (by simp [conj]) ?_
      exact run_retC hpin g (hS.fin g1 g2) [0] rfl rfl (by simp [conj]) rfl (by simp [conj, less_rfl, ren_fnr, renR_fnr])
    have hpq : p + 12 < q := by simp at hc; omega
    clear hc
    refine goS hB rfl rfl (by simp [conj]) ?_
    refine run_cond rfl (fun hc => ?_) (fun hc => ?_)
    · clear ih IH
      refine goS hB rfl rfl (by simp [conj]) ?_
      refine run_callC (heap_hc n cap p q (by omega) (by omega) (by omega) e) named hB [0] rfl rfl rfl rfl (by simp [conj]) (by simp [conj, less_rfl, ren_fnr]) ?_
      rintro g ⟨g1, g2⟩
      refine ⟨show 1 ≤ 1 by omega, _, _, _, rfl, rfl, rfl, ?_⟩
      refine goS hB rfl rfl (by simp [conj]) ?_
      exact run_retC hpin g (hS.fin g1 g2) [0] rfl rfl (by simp [conj]) rfl (by simp [conj, less_rfl, ren_fnr, renR_fnr])
    have hl0 : 0 < lm := by simp at hc; omega
    clear hc
    refine goS hB rfl rfl (by simp [conj]) ?_
    apply run_shareI (B := B) (fun z : Nat × Dt => PSt a b p q d z.2 ∧ z.1 < 1000) (fun z N TD => ⟨⟨fid 88, N, [(45, i64 q), (44, i64 p), (43, .sq 0 0 0 1 n .no), (8, .sb wb), (9, .sb wp), (10, .int .i64 ((q : Int) - (p : Int))), (0, .sq 0 0 0 1 n .no), (1, i64 p), (2, i64 q), (3, i64 z.1)], TD⟩, [], rowD n cap z.2, 1⟩)
    · intro next
      refine run_cond rfl (fun hc => ?_) (fun hc => ?_)
      · refine goS hB rfl rfl (by simp [conj]) ?_
        refine run_callC (break_hc n cap p q hpq (by omega) hn e) named hB [0] rfl rfl rfl rfl (by simp [conj]) (by simp [conj, less_rfl, ren_fnr]) ?_
        intro g g1
        refine ⟨show 1 ≤ 1 by omega, _, _, _, rfl, rfl, rfl, ?_⟩
        refine goS hB rfl rfl (by simp [conj, Fits_i64]; omega) ?_
        refine run_to hpin [0] rfl rfl ?_ (next (lm - 1, g) ⟨hS.swap g1, by show lm - 1 < 1000; omega⟩)
        clear next
        simp [conj, less_rfl, ren_fnr, renR_fnr]
        omega
      · refine goS hB rfl rfl (by simp [conj]) ?_
        refine run_to hpin [0] rfl rfl ?_ (next (lm, e) ⟨hS, hl⟩)
        clear next
        simp [conj, less_rfl, ren_fnr, renR_fnr]
    clear hS hl hl0
    rintro ⟨lm1, e1⟩ ⟨hS, hl⟩
    have hS : PSt a b p q d e1 := hS
    have hl : lm1 < 1000 := hl
    refine run_callC (pivot_hc n cap p q hpq (by omega) (by omega) e1) named hB [0] rfl rfl rfl rfl (by simp [conj]) (by simp [conj, less_rfl, ren_fnr]) ?_
    rintro ⟨pv, hint⟩ ⟨v1, v2⟩
    have v1 : p ≤ pv := v1
    have v2 : pv < q := v2
    refine ⟨show 1 ≤ 1 by omega, _, _, _, rfl, rfl, rfl, ?_⟩
    refine goS hB rfl rfl (by simp [conj]) ?_
    apply run_shareI (B := B) (fun z : Nat × Bool × Dt => PSt a b p q d z.2.2 ∧ p ≤ z.1 ∧ z.1 < q) (fun z N TD => ⟨⟨fid 88, N, [(68, .sb z.2.1), (11, i64 z.1), (8, .sb wb), (9, .sb wp), (10, .int .i64 ((q : Int) - (p : Int))), (0, .sq 0 0 0 1 n .no), (1, i64 p), (2, i64 q), (3, i64 lm1)], TD⟩, [], rowD n cap z.2.2, 1⟩)
    · intro next
      refine run_cond rfl (fun hc => ?_) (fun hc => ?_)
      · refine goS hB rfl rfl (by simp [conj]) ?_
        refine run_callC (reverse_hc n cap p q (by omega) (by omega) (by omega) e1) named hB [0] rfl rfl rfl rfl (by simp [conj]) (by simp [conj, less_rfl, ren_fnr]) ?_
        intro g g1
        refine ⟨show 1 ≤ 1 by omega, _, _, _, rfl, rfl, rfl, ?_⟩
        refine goS hB rfl rfl (by simp [conj, Fits_i64]; omega) ?_
        refine run_to hpin [0] rfl rfl ?_ (next (q - 1 - (pv - p), (wb && wp && decide ((1 : Int) = 1)), g) ⟨hS.swap g1, by show p ≤ q - 1 - (pv - p); omega, by show q - 1 - (pv - p) < q; omega⟩)
        clear next
        simp [conj, less_rfl, ren_fnr, renR_fnr]
        omega
      · refine goS hB rfl rfl (by simp [conj]) ?_
        refine run_to hpin [0] rfl rfl ?_ (next (pv, (wb && wp && decide (((hint : Nat) : Int) = 1)), e1) ⟨hS, v1, v2⟩)
        clear next
        simp [conj, less_rfl, ren_fnr, renR_fnr]
    clear hS v1 v2
    rintro ⟨pv, qq, e2⟩ ⟨hS, v1, v2⟩
    have hS : PSt a b p q d e2 := hS
    have v1 : p ≤ pv := v1
    have v2 : pv < q := v2
    apply run_shareI (B := B) (fun g : Dt => PSt a b p q d g) (fun g N TD => ⟨⟨fid 88, N, [(98, i64 pv), (97, i64 q), (96, i64 p), (95, .sq 0 0 0 1 n .no), (8, .sb wb), (10, .int .i64 ((q : Int) - (p : Int))), (0, .sq 0 0 0 1 n .no), (1, i64 p), (2, i64 q), (3, i64 lm1)], TD⟩, [], rowD n cap g, 1⟩)
    · intro next
      refine run_cond rfl (fun hc => ?_) (fun hc => ?_)
      · refine goS hB rfl rfl (by simp [conj]) ?_
        refine run_callC (partial_hc n cap p q hpq (by omega) (by omega) e2 hS.below) named hB [0] rfl rfl rfl rfl (by simp [conj]) (by simp [conj, less_rfl, ren_fnr]) ?_
        rintro ⟨r, g⟩ ⟨g1, g2⟩
        have g1 : SW p q e2 g := g1
        have g2 : r = true → Srt p q g := g2
        refine ⟨show 1 ≤ 1 by omega, _, _, _, rfl, rfl, rfl, ?_⟩
        refine goS hB rfl rfl (by simp [conj]) ?_
        refine run_cond rfl (fun hc2 => ?_) (fun hc2 => ?_)
        · clear next ih IH
          first
          | exact run_retC hpin g (hS.fin g1 (g2 hc2)) [0] rfl rfl (by simp [conj]) rfl (by simp [conj, less_rfl, ren_fnr, renR_fnr])
          | (refine goS hB rfl rfl (by simp [conj]) ?_
             exact run_retC hpin g (hS.fin g1 (g2 hc2)) [0] rfl rfl (by simp [conj]) rfl (by simp [conj, less_rfl, ren_fnr, renR_fnr]))
        · have hS' := hS.swap g1
          refine goS hB rfl rfl (by simp [conj, Fits_i64]; omega) ?_
          refine run_condF rfl (test_below hS'.below v1 v2) ?_
          refine goS hB rfl rfl (by simp [conj]) ?_
          refine run_to hpin [0] rfl rfl ?_ (next g hS')
          clear next
          simp [conj, less_rfl, ren_fnr, renR_fnr]
      · refine goS hB rfl rfl (by simp [conj, Fits_i64]; omega) ?_
        refine run_condF rfl (test_below hS.below v1 v2) ?_
        refine goS hB rfl rfl (by simp [conj]) ?_
        refine run_to hpin [0] rfl rfl ?_ (next e2 hS)
        clear next
        simp [conj, less_rfl, ren_fnr, renR_fnr]
    clear hS
    intro e3 hS
    refine run_callC (partition_hc n cap p q pv hpq (by omega) (by omega) v1 v2 e3) named hB [0] rfl rfl rfl rfl (by simp [conj]) (by simp [conj, less_rfl, ren_fnr]) ?_
    rintro ⟨mid, alr, e4⟩ ⟨w1, w2, w3, w4⟩
    have w1 : SW p q e3 e4 := w1
    have w2 : p ≤ mid := w2
    have w3 : mid < q := w3
    have w4 : Part p q mid e4 := w4
    have hS := hS.swap w1
    refine ⟨show 1 ≤ 1 by omega, _, _, _, rfl, rfl, rfl, ?_⟩
    refine goS hB rfl rfl (by simp [conj, Fits_i64]; omega) ?_
    refine run_cond rfl (fun hc => ?_) (fun hc => ?_)
    · refine goS hB rfl rfl (by simp [conj]) ?_
      refine run_callC (IH p mid lm1 e4 (by omega) w2 (by omega) hl (hS.inj.sub ap (by omega)) (fun h0 k k1 k2 => hS.below h0 k k1 (by omega))) named hB [0] rfl rfl rfl rfl (by simp [conj]) (by simp [conj, less_rfl, ren_fnr, renR_fnr]) ?_
      rintro g ⟨g1, g2⟩
      refine ⟨show 1 ≤ 1 by omega, _, _, _, rfl, rfl, rfl, ?_⟩
      have ih := ih ((mid + 1, q, lm1), decide (((q : Int) - (p : Int)) / 8 ≤ (mid : Int) - (p : Int)), alr, g) ⟨hS.left w2 w3 w4 g1 g2, hl⟩ (by show q - (mid + 1) < q - p; omega)
      refine goS hB rfl rfl (by simp [conj, Fits_i64]; omega) ?_
      refine run_back ?_
      refine run_to hpin [0] rfl rfl ?_ ih
      clear ih
      simp [conj, less_rfl, ren_fnr, renR_fnr]
    · refine goS hB rfl rfl (by simp [conj, Fits_i64]; omega) ?_
      refine run_callC (IH (mid + 1) q lm1 e4 (by omega) (by omega) (by omega) hl (hS.inj.sub (by omega) qb) (fun _ k k1 k2 => by
        have h1 := w4.2 k (by omega) k2
        have h2 : e4 mid ≠ e4 k := fun he => by
          have := hS.inj mid k (by omega) (by omega) (by omega) (by omega) he
          omega
        rw [show mid + 1 - 1 = mid by omega]
        omega)) named hB [0] rfl rfl rfl rfl (by simp [conj]) (by simp [conj, less_rfl, ren_fnr, renR_fnr]) ?_
      rintro g ⟨g1, g2⟩
      refine ⟨show 1 ≤ 1 by omega, _, _, _, rfl, rfl, rfl, ?_⟩
      have ih := ih ((p, mid, lm1), decide (((q : Int) - (p : Int)) / 8 ≤ (q : Int) - (mid : Int)), alr, g) ⟨hS.right w2 w3 w4 g1 g2, hl⟩ (by show mid - p < q - p; omega)
      refine goS hB rfl rfl (by simp [conj, Fits_i64]; try omega) ?_
      refine run_back ?_
      refine run_to hpin [0] rfl rfl ?_ ih
      clear ih
      simp [conj, less_rfl, ren_fnr, renR_fnr]
end Sx
end
section
/- Contracts for the examples. Conditions: as each theorem says. -/
namespace Sx
open Go Go.Proofs
set_option maxRecDepth 100000
abbrev hA : Int → Bool := fun a => ieq a 1 || false
abbrev vA : Int → Int := fun a => bif ieq a 1 then 10 else 0
abbrev hB : Int → Bool := fun a => ieq a 2 || (ieq a 1 || false)
abbrev vB : Int → Int := fun a => bif ieq a 2 then 20 else bif ieq a 1 then 10 else 0
/-- The keys of h, in order. -/
def KeysOf (h : Int → Bool) (l : List Int) : Prop := l.Pairwise (· < ·) ∧ ∀ a, a ∈ l ↔ h a = true
theorem len_le {h S : Int → Bool} {l zs : List Int} (hk : KeysOf h l) (hn : zs.Nodup) (hm : ∀ a, a ∈ zs ↔ S a = true) (hs : ∀ a, S a = true → h a = true) : zs.length ≤ l.length :=
  List.Nodup.length_le_of_subset hn fun a ha => (hk.2 a).2 (hs a ((hm a).1 ha))
theorem seen_sub {S H : Int → Bool} {a : Int} (h : ∀ y, S y = true → H y = true) (ha : H a = true) (y : Int) (hy : (ieq y a || S y) = true) : H y = true := by
  rw [Bool.or_eq_true] at hy
  rcases hy with hy | hy
  · have : y = a := by simpa [ieq] using hy
    rw [this]; exact ha
  · exact h y hy
theorem app_rowL (l : List Int) (a : Int) (i : Nat) (hi : i < l.length + 1) :
    rowL .u64 (l ++ [a]) i 0 = appF (rowL .u64 l) l.length (fun i j => [SV.int .u64 a][i + j]?.getD .und) i 0 := by
  unfold appF
  by_cases h : i < l.length
  · have hb : Nat.blt i l.length = true := by simpa [Nat.blt_eq] using h
    rw [hb, cond_true]
    simp [rowL, h, List.getElem?_append_left h]
  · have : i = l.length := by omega
    subst this
    have hb : Nat.blt l.length l.length = false := by
      cases hq : Nat.blt l.length l.length with
      | false => rfl
      | true => rw [Nat.blt_eq] at hq; omega
    rw [hb, cond_false]
    simp [rowL]
theorem ren_rowL (nx : Nat) (sg : List Nat) (k : IntKind) (l : List Int) (i j : Nat) : ren nx sg (rowL k l i j) = rowL k l i j := by
  unfold rowL; split <;> simp only [ren, renF, id]
theorem renR_rowL (nx : Nat) (sg : List Nat) (k : IntKind) (l : List Int) : renR nx sg (rowL k l) = rowL k l := by funext i j; exact ren_rowL nx sg k l i j
theorem collect_hc (h : Int → Bool) (v : Int → Int) (l : List Int) (hk : KeysOf h l) (hl : l.length < 1000000) :
    HC Try.prog 87 [.nilsl, .clo (.func 86) [] [.ptr 0 0]] [(0, .cells [.mp 1] 44), (1, .map .u64 h (.ints .u64 v))] [] 2 (fun z : List Int => z.Nodup ∧ ∀ a, a ∈ z ↔ h a = true)
      (fun z => ⟨.sq 2 0 0 1 z.length .own, [(0, .cells [.mp 1] 44), (1, .map .u64 h (.ints .u64 v)), (2, .row 0 z.length z.length 1 (rowL .u64 z) 23)], 3⟩) := by
  refine hc_of_run Try.func87 rfl (fun B hB hpin => ?_)
  refine goK hB rfl rfl (by simp [conj]) ?_
  refine run_range named hB rfl rfl (by simp [conj]) rfl rfl rfl rfl ?_
  intro D l'
  have hB1 : (B.pin2 3 D l').ok := Base.pin2_ok hB
  have hpin1 : PinTo (B.pin2 3 D l') 5 := hpin.pin2 (by omega)
  refine goK hB1 rfl rfl (by simp [conj]) ?_
  refine run_mrange hB1 rfl rfl rfl conj_nil rfl rfl (fun es clock hK => ⟨_, _, rfl, rfl, ?_⟩)
  refine goK hB1 rfl rfl conj_nil ?_
  refine run_loop ?_
  refine run_invK (ι := Array Nat × (Int → Bool) × List Int) hpin1 (fun z => SeenIs .u64 es z.1 z.2.1 ∧ (∀ a, z.2.1 a = true → h a = true) ∧ z.2.2.Nodup ∧ ∀ a, a ∈ z.2.2 ↔ z.2.1 a = true) (fun z => (leftOf es z.1).size) (fun _ => [(0, .clo (.yield l') [] []), (5, .ptr 5 0)]) (fun _ => [[(2, .ptr 2 0)]]) [3, 4]
    (fun z => [(0, .cells [.mp 1] 44), (1, .mape .u64 h (.ints .u64 v) es clock), (2, .cells [.sq 6 0 0 1 z.2.2.length .own] 47), (5, .mit 1 clock z.1 clock), (6, .row 0 z.2.2.length z.2.2.length 1 (rowL .u64 z.2.2) 23)]) 7 (#[], (fun _ => false), []) ⟨seenIs_zero _ _, fun a ha => by (cases ha), List.nodup_nil, fun a => by simp⟩
    [0, 1, 2, 3, 4, 5, 6] rfl rfl (by simp [conj, less_rfl, ren_rowL]) ?_
  rintro ⟨seen, S, zs⟩ ⟨hS, hSi, hN, hM⟩ ih
  refine goK hB1 rfl rfl conj_nil ?_
  refine run_mnext hK hS rfl rfl rfl conj_nil rfl rfl (fun hov => ⟨_, rfl, ?_⟩) (fun a seen' ha hSa hS' hL hlt => ⟨_, _, rfl, rfl, ?_⟩)
  · clear ih
    have hSh : S = h := by
      funext a
      exact Bool.eq_iff_iff.2 ⟨hSi a, hov a⟩
    refine goK hB1 rfl rfl (by simp [conj]) ?_
    refine run_inR [] (.inl rfl) trivial rfl rfl (by simp [conj]) ?_
    refine run_endR 4 rfl rfl (by decide) rfl ?_
    refine goK hB1 rfl rfl (by simp [conj]) ?_
    refine run_retMC ((More.refl B).pin2 hpin (by omega)) hpin zs ⟨hN, by rw [← hSh]; exact hM⟩ [3] [0, 1, 6] (.inr ⟨_, rfl⟩) ⟨rfl, rfl, trivial⟩ rfl rfl rfl (by simp [conj]) rfl ?_
    simp [conj, less_rfl, ren_rowL]
  · refine goK hB1 rfl rfl (by simp [conj]) ?_
    refine run_mentry hK hL rfl rfl rfl conj_nil rfl rfl rfl ?_
    refine goK hB1 rfl rfl (by simp [conj]) ?_
    refine run_yield 4 rfl rfl (by simp [conj]) rfl rfl rfl ?_
    refine goK hB1 rfl rfl (by simp [conj]) ?_
    refine run_begin 4 rfl rfl rfl rfl ?_
    have hnM : zs.length ≤ l.length := len_le hk hN hM hSi
    refine goK hB1 rfl rfl (by simp [conj]; omega) ?_
    refine run_round 4 .off rfl rfl rfl rfl ?_
    refine goK hB1 rfl rfl (by simp [conj]) ?_
    refine run_back ?_
    have ha' : a ∉ zs := fun hq => by rw [hM a, hSa] at hq; cases hq
    have hfin := ih (seen', (fun y => ieq y a || S y), zs ++ [a]) ⟨hS', fun y hy => seen_sub hSi ha y hy, by
      simp only
      rw [List.nodup_append]
      refine ⟨hN, by simp, fun x hx y hy => ?_⟩
      have : y = a := by simpa using hy
      subst this
      exact fun q => ha' (q ▸ hx), fun y => by
      simp only [List.mem_append, List.mem_singleton, Bool.or_eq_true, hM y]
      unfold ieq
      rw [decide_eq_true_iff]
      exact ⟨fun q => q.symm, fun q => q.symm⟩⟩ hlt
    clear ih
    refine run_to hpin1 [0, 1, 2, 3, 4, 5, 8] rfl rfl ?_ hfin
    clear hfin
    simp [conj, less_rfl, ren_rowL]
    exact ⟨rfl, fun i hi => Less.of (app_rowL zs a i hi)⟩
theorem sort2_hc (zs : List Int) (hz : zs = [1, 2] ∨ zs = [2, 1]) : HC Try.prog 85 [.sq 0 0 0 1 2 .no] [(0, .row 0 2 2 1 (rowL .u64 zs) 23)] [] 1 (fun _ : Unit => True) (fun _ => ⟨.tup [], [(0, .row 0 2 2 1 (rowL .u64 [1, 2]) 23)], 1⟩) := by
  refine hc_of_run Try.func85 rfl (fun B hB hpin => ?_)
  rcases hz with rfl | rfl
  · refine goX hB 2000 rfl (by simp [conj, Fits_i64] <;> decide +kernel) ?_
    refine run_endC hpin () trivial [0] rfl rfl (by simp [conj]) rfl ?_
    simp [conj, less_rfl, ren_rowL]
  · refine goX hB 2000 rfl (by simp [conj, Fits_i64] <;> decide +kernel) ?_
    refine run_endC hpin () trivial [0] rfl rfl (by simp [conj]) rfl ?_
    simp [conj, less_rfl, ren_rowL]
    intro i hi
    match i, hi with
    | 0, _ => exact Less.rfl
    | 1, _ => exact Less.rfl
theorem sort1_hc (a : Int) : HC Try.prog 85 [.sq 0 0 0 1 1 .no] [(0, .row 0 1 1 1 (rowL .u64 [a]) 23)] [] 1 (fun _ : Unit => True) (fun _ => ⟨.tup [], [(0, .row 0 1 1 1 (rowL .u64 [a]) 23)], 1⟩) := by
  refine hc_of_run Try.func85 rfl (fun B hB hpin => ?_)
  refine goX hB 2000 rfl (by simp [conj, Fits_i64] <;> decide +kernel) ?_
  refine run_endC hpin () trivial [0] rfl rfl (by simp [conj]) rfl ?_
  simp [conj, less_rfl, ren_rowL]
theorem sort0_hc : HC Try.prog 85 [.sq 0 0 0 1 0 .no] [] [] 0 (fun _ : Unit => True) (fun _ => ⟨.tup [], [], 0⟩) := by
  refine hc_of_run Try.func85 rfl (fun B hB hpin => ?_)
  refine goX hB 2000 rfl (by simp [conj, Fits_i64] <;> decide +kernel) ?_
  exact run_endC hpin () trivial [] rfl rfl (by simp [conj]) rfl (by simp [conj])
theorem perm_of {h : Int → Bool} {l zs : List Int} (hk : KeysOf h l) (hn : zs.Nodup) (hm : ∀ a, a ∈ zs ↔ h a = true) : zs.Perm l :=
  (List.perm_ext_iff_of_nodup hn (hk.1.imp fun {a b} h => by omega)).2 fun a => (hm a).trans (hk.2 a).symm
theorem sorted2_hc (h : Int → Bool) (v : Int → Int) (hk : KeysOf h [1, 2]) : HC Try.prog 81 [.clo (.func 86) [] [.ptr 0 0]] [(0, .cells [.mp 1] 44), (1, .map .u64 h (.ints .u64 v))] [] 2 (fun _ : Unit => True)
    (fun _ => ⟨.sq 2 0 0 1 2 .own, [(0, .cells [.mp 1] 44), (1, .map .u64 h (.ints .u64 v)), (2, .row 0 2 2 1 (rowL .u64 [1, 2]) 23)], 3⟩) := by
  refine hc_of_run Try.func81 rfl (fun B hB hpin => ?_)
  refine goX hB 300 rfl (by simp [conj]) ?_
  refine run_callC (collect_hc h v [1, 2] hk (by decide)) named hB [0, 1] rfl rfl rfl rfl (by simp [conj]) (by simp [conj, less_rfl]) ?_
  rintro zs ⟨hN, hM⟩
  have hp := perm_of hk hN hM
  have hz : zs = [1, 2] ∨ zs = [2, 1] := by
    have hl := hp.length_eq
    match zs, hl with
    | [a, b], _ =>
      have ha := hp.mem_iff.1 (show a ∈ [a, b] by simp)
      have hb := hp.mem_iff.1 (show b ∈ [a, b] by simp)
      simp at ha hb hN
      rcases ha with rfl | rfl <;> rcases hb with rfl | rfl <;> simp_all
  have hl : zs.length = 2 := hp.length_eq
  rw [hl]
  refine ⟨show 2 ≤ 3 by omega, _, _, _, rfl, rfl, rfl, ?_⟩
  refine goX hB 300 rfl (by simp [conj]) ?_
  refine run_callC (sort2_hc zs hz) named hB [2] rfl rfl rfl rfl (by simp [conj]) (by simp [conj, less_rfl, ren_rowL, renR_rowL]) ?_
  rintro ⟨⟩ _
  refine ⟨show 1 ≤ 1 by omega, _, _, _, rfl, rfl, rfl, ?_⟩
  refine goX hB 300 rfl (by simp [conj]) ?_
  exact run_retC hpin () trivial [0, 1, 2] rfl rfl (by simp [conj]) rfl (by simp [conj, less_rfl, ren_rowL, renR_rowL])
theorem sorted1_hc (h : Int → Bool) (v : Int → Int) (a : Int) (hk : KeysOf h [a]) : HC Try.prog 81 [.clo (.func 86) [] [.ptr 0 0]] [(0, .cells [.mp 1] 44), (1, .map .u64 h (.ints .u64 v))] [] 2 (fun _ : Unit => True)
    (fun _ => ⟨.sq 2 0 0 1 1 .own, [(0, .cells [.mp 1] 44), (1, .map .u64 h (.ints .u64 v)), (2, .row 0 1 1 1 (rowL .u64 [a]) 23)], 3⟩) := by
  refine hc_of_run Try.func81 rfl (fun B hB hpin => ?_)
  refine goX hB 300 rfl (by simp [conj]) ?_
  refine run_callC (collect_hc h v [a] hk (by simp)) named hB [0, 1] rfl rfl rfl rfl (by simp [conj]) (by simp [conj, less_rfl]) ?_
  rintro zs ⟨hN, hM⟩
  obtain rfl : zs = [a] := List.perm_singleton.1 (perm_of hk hN hM)
  refine ⟨show 2 ≤ 3 by omega, _, _, _, rfl, rfl, rfl, ?_⟩
  refine goX hB 300 rfl (by simp [conj]) ?_
  refine run_callC (sort1_hc a) named hB [2] rfl rfl rfl rfl (by simp [conj]) (by simp [conj, less_rfl, ren_rowL, renR_rowL]) ?_
  rintro ⟨⟩ _
  refine ⟨show 1 ≤ 1 by omega, _, _, _, rfl, rfl, rfl, ?_⟩
  refine goX hB 300 rfl (by simp [conj]) ?_
  exact run_retC hpin () trivial [0, 1, 2] rfl rfl (by simp [conj]) rfl (by simp [conj, less_rfl, ren_rowL, renR_rowL])
theorem sorted0_hc (h : Int → Bool) (v : Int → Int) (hk : KeysOf h []) : HC Try.prog 81 [.clo (.func 86) [] [.ptr 0 0]] [(0, .cells [.mp 1] 44), (1, .map .u64 h (.ints .u64 v))] [] 2 (fun _ : Unit => True)
    (fun _ => ⟨.sq 0 0 0 1 0 .own, [(0, .cells [.mp 1] 44), (1, .map .u64 h (.ints .u64 v))], 2⟩) := by
  refine hc_of_run Try.func81 rfl (fun B hB hpin => ?_)
  refine goX hB 300 rfl (by simp [conj]) ?_
  refine run_callC (collect_hc h v [] hk (by simp)) named hB [0, 1] rfl rfl rfl rfl (by simp [conj]) (by simp [conj, less_rfl]) ?_
  rintro zs ⟨hN, hM⟩
  obtain rfl : zs = [] := List.perm_nil.1 (perm_of hk hN hM)
  refine ⟨show 2 ≤ 3 by omega, _, _, _, rfl, rfl, rfl, ?_⟩
  refine goX hB 300 rfl (by simp [conj]) ?_
  refine run_callC sort0_hc named hB [] rfl rfl rfl rfl (by simp [conj]) (by simp [conj, less_rfl, ren_rowL, renR_rowL]) ?_
  rintro ⟨⟩ _
  refine ⟨show 0 ≤ 0 by omega, _, _, _, rfl, rfl, rfl, ?_⟩
  refine goX hB 300 rfl (by simp [conj]) ?_
  exact run_retC hpin () trivial [0, 1] rfl rfl (by simp [conj]) rfl (by simp [conj, less_rfl, ren_rowL, renR_rowL])
theorem shared_hc (k : Int) : HC Try.prog 72 [.ptr 0 0] [] [(0, .cells [.und, .und, i64 k, .und, .und, .und] 46)] 1 (fun _ : Unit => True) (fun _ => ⟨.sb (decide (5 ≤ k)), [], 1⟩) := by
  refine hc_of_run Try.func72 rfl (fun B hB hpin => ?_)
  refine goK hB rfl rfl (by simp [conj, isPt25]) ?_
  exact run_retC hpin () trivial [0] rfl rfl (by simp [conj]) rfl (by simp [conj, less_rfl])
def rcSh (k : Int) (a : Nat) : RC := ⟨72, [.ptr 0 0], [], [(0, .cells [.und, .und, i64 k, .und, .und, .und] 46)], 1, .sb (decide (5 ≤ k)), [], 1, [a]⟩
theorem rcSh_ok (k : Int) (a : Nat) : RcOk Try.prog (rcSh k a) := ⟨shared_hc k, rfl, Nat.le_refl _⟩
theorem keysB : KeysOf hB [1, 2] := by
  refine ⟨by simp, fun a => ?_⟩
  simp [hB, ieq]
  omega
theorem others2_hc (h : Int → Bool) (v : Int → Int) (hk : KeysOf h [2]) : HC Try.prog 53 [.ptr 0 0, u64 2] [(1, .map .u64 h (.ints .u64 v))] [(0, .cells [.und, .mp 1, .und, .und, .und, .und] 46)] 2 (fun _ : Unit => True)
    (fun _ => ⟨.nilsl, [(1, .map .u64 h (.ints .u64 v))], 2⟩) := by
  refine hc_of_run Try.func53 rfl (fun B hB hpin => ?_)
  refine goX hB 300 rfl (by simp [conj, isPt25]) ?_
  refine run_callC (sorted1_hc h v 2 hk) named hB [3, 1] rfl rfl rfl rfl (by simp [conj]) (by simp [conj, less_rfl]) ?_
  rintro ⟨⟩ _
  refine ⟨show 2 ≤ 3 by omega, _, _, _, rfl, rfl, rfl, ?_⟩
  refine goX hB 900 rfl (by simp [conj, Fits_i64] <;> decide +kernel) ?_
  refine run_retC hpin () trivial [0, 1] rfl rfl (by simp [conj]) rfl (by simp [conj, less_rfl, ren_rowL, renR_rowL])
def rcO2 (h : Int → Bool) (v : Int → Int) (a b : Nat) : RC := ⟨53, [.ptr 0 0, u64 2], [(1, .map .u64 h (.ints .u64 v))], [(0, .cells [.und, .mp 1, .und, .und, .und, .und] 46)], 2, .nilsl, [(1, .map .u64 h (.ints .u64 v))], 2, [a, b]⟩
theorem rcO2_ok (h : Int → Bool) (v : Int → Int) (hk : KeysOf h [2]) (a b : Nat) : RcOk Try.prog (rcO2 h v a b) := ⟨others2_hc h v hk, rfl, Nat.le_refl _⟩
abbrev hC : Int → Bool := fun a => hB a && !ieq a 1
theorem keysC : KeysOf hC [2] := by
  refine ⟨by simp, fun a => ?_⟩
  simp [hC, hB, ieq]
  omega
end Sx
end
