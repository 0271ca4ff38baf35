/- siftDownOrdered, heapSortOrdered sort. Conditions: as each theorem says. -/
import Derived.Test.YtlpbmlfejiaamaaNsb
set_option linter.unusedSimpArgs false
set_option linter.unusedVariables false
namespace Sx
open Go Go.Proofs
set_option maxRecDepth 100000
/-- From lo on no child is greater. -/
def Heap (lo hi f : Nat) (e : Dt) : Prop := ∀ k c, lo ≤ k → (c = 2 * k + 1 ∨ c = 2 * k + 2) → c < hi → e (f + c) ≤ e (f + k)
structure Sift (lo hi f r : Nat) (d e : Dt) : Prop where
  sw : SW (f + lo) (f + hi) d e
  lr : lo ≤ r
  one : ∀ k c, lo ≤ k → k ≠ r → (c = 2 * k + 1 ∨ c = 2 * k + 2) → c < hi → e (f + c) ≤ e (f + k)
  two : ∀ k c, lo ≤ k → (r = 2 * k + 1 ∨ r = 2 * k + 2) → (c = 2 * r + 1 ∨ c = 2 * r + 2) → c < hi → e (f + c) ≤ e (f + k)
theorem Sift.start {lo hi f : Nat} {d : Dt} (h : Heap (lo + 1) hi f d) : Sift lo hi f lo d d :=
  ⟨.refl, Nat.le_refl _, fun k c h1 h2 h3 h4 => h k c (by omega) h3 h4, fun k c h1 h2 h3 h4 => by omega⟩
theorem Sift.leaf {lo hi f r : Nat} {d e : Dt} (h : Sift lo hi f r d e) (hr : hi ≤ 2 * r + 1) : Heap lo hi f e := fun k c h1 h2 h3 => by
  by_cases q : k = r
  · omega
  · exact h.one k c h1 q h2 h3
theorem Sift.stop {lo hi f r c : Nat} {d e : Dt} (h : Sift lo hi f r d e) (hm : ∀ c', (c' = 2 * r + 1 ∨ c' = 2 * r + 2) → c' < hi → e (f + c') ≤ e (f + c)) (hs : e (f + c) ≤ e (f + r)) : Heap lo hi f e := fun k c' h1 h2 h3 => by
  by_cases q : k = r
  · subst q
    have := hm c' h2 h3
    omega
  · exact h.one k c' h1 q h2 h3
theorem Sift.down {lo hi f r c : Nat} {d e : Dt} (h : Sift lo hi f r d e) (hc : c = 2 * r + 1 ∨ c = 2 * r + 2) (hch : c < hi) (hm : ∀ c', (c' = 2 * r + 1 ∨ c' = 2 * r + 2) → c' < hi → e (f + c') ≤ e (f + c)) (hs : e (f + r) < e (f + c)) :
    Sift lo hi f c d (swp e (f + r) (f + c)) := by
  have lr := h.lr
  refine ⟨.step _ _ h.sw (by omega) (by omega) (by omega) (by omega), by omega, fun k c' h1 h2 h3 h4 => ?_, fun k c' h1 h2 h3 h4 => ?_⟩
  · unfold swp
    by_cases q : k = r
    · subst q
      rw [if_pos (show f + k = f + k from rfl)]
      by_cases q2 : c' = c
      · subst q2
        rw [if_neg (by omega), if_pos rfl]; omega
      · rw [if_neg (by omega), if_neg (by omega)]
        exact hm c' h3 h4
    · rw [if_neg (show ¬ f + k = f + r by omega), if_neg (show ¬ f + k = f + c by omega)]
      by_cases q2 : c' = r
      · subst q2
        rw [if_pos rfl]
        exact h.two k c h1 h3 hc hch
      · rw [if_neg (by omega), if_neg (by omega)]
        exact h.one k c' h1 q h3 h4
  · have hkr : k = r := by omega
    subst hkr
    unfold swp
    rw [if_neg (show ¬ f + c' = f + k by omega), if_neg (show ¬ f + c' = f + c by omega), if_pos rfl]
    exact h.one c c' (by omega) (by omega) h3 h4
theorem Heap.root {hi f : Nat} {e : Dt} (h : Heap 0 hi f e) : ∀ k, k < hi → e (f + k) ≤ e f := by
  intro k
  induction k using Nat.strongRecOn with
  | ind k ih =>
    intro hk
    rcases Nat.eq_zero_or_pos k with h0 | h0
    · subst h0; exact Int.le_refl _
    · have := ih ((k - 1) / 2) (by omega) (by omega)
      have h2 := h ((k - 1) / 2) k (Nat.zero_le _) (by omega) hk
      omega
set_option maxHeartbeats 4000000 in
theorem sift_hc (n cap lo hi f : Nat) (hf : f + hi ≤ n) (hlo : lo < 1000000) (hn : n < 1000000) (d : Dt) (hd : Heap (lo + 1) hi f d) :
    HC Try.prog 100 [.sq 0 0 0 1 n .no, i64 lo, i64 hi, i64 f] (rowD n cap d) [] 1 (fun e : Dt => SW (f + lo) (f + hi) d e ∧ Heap lo hi f e) (fun e => ⟨.tup [], rowD n cap e, 1⟩) := by
  refine hc_of_run Try.func100 rfl (fun B hB hpin => ?_)
  refine goS hB rfl rfl (by simp [conj]) ?_
  refine run_loop ?_
  refine run_inv (ι := Nat × Dt) hpin (fun z => Sift lo hi f z.1 d z.2 ∧ z.1 < 1000000) (fun z => hi - z.1) (fun z => [(8, i64 z.1), (0, .sq 0 0 0 1 n .no), (2, i64 hi), (3, i64 f)]) (fun _ => []) (fun z => rowD n cap z.2) 1 (lo, d) ⟨.start hd, hlo⟩
    [0] rfl rfl (by simp [conj, less_rfl, ren_fnr]) ?_
  rintro ⟨r, e⟩ ⟨hS, hr⟩ ih
  have hS : Sift lo hi f r d e := hS
  have hr : r < 1000000 := hr
  have lr := hS.lr
  refine goS hB rfl rfl (by simp [conj, Fits_i64]; omega) ?_
  refine run_cond rfl (fun hc => ?_) (fun hc => ?_)
  · clear ih
    refine goS hB rfl rfl (by simp [conj]) ?_
    refine run_endC hpin e ⟨hS.sw, hS.leaf (by simp at hc; omega)⟩ [0] rfl rfl (by simp [conj]) rfl (by simp [conj, less_rfl, ren_fnr])
  have hch : 2 * r + 1 < hi := by simp at hc; omega
  clear hc
  refine goS hB rfl rfl (by simp [conj, Fits_i64]; omega) ?_
  have x1 : 0 + ((f : Int) + (2 * (r : Int) + 1)).toNat = f + (2 * r + 1) := by omega
  have x2 : 0 + ((f : Int) + (2 * (r : Int) + 1) + 1).toNat = f + (2 * r + 2) := by omega
  refine run_cond rfl (fun hc => ?_) (fun hc => ?_)
  · have ⟨c1, c2⟩ : 2 * r + 2 < hi ∧ e (f + (2 * r + 1)) < e (f + (2 * r + 2)) := by
      rw [Bool.and_eq_true, decide_eq_true_iff, decide_eq_true_iff] at hc
      simp only at hc
      rw [x1, x2] at hc
      exact ⟨by have := hc.1; omega, hc.2⟩
    clear hc
    have hm : ∀ c', (c' = 2 * r + 1 ∨ c' = 2 * r + 2) → c' < hi → e (f + c') ≤ e (f + (2 * r + 2)) := by
      rintro c' (rfl | rfl) _ <;> omega
    refine goS hB rfl rfl (by simp [conj, Fits_i64]; omega) ?_
    have y1 : 0 + ((f : Int) + (r : Int)).toNat = f + r := by omega
    have y2 : 0 + ((f : Int) + (2 * (r : Int) + 1 + 1)).toNat = f + (2 * r + 2) := by omega
    have hcr : 2 * r + 2 = 2 * r + 1 ∨ 2 * r + 2 = 2 * r + 2 := by omega
    refine run_cond rfl (fun h2 => ?_) (fun h2 => ?_)
    · clear ih
      have h2 : ¬ e (f + r) < e (f + (2 * r + 2)) := by
        simp only [Bool.not_eq_true', decide_eq_false_iff_not] at h2
        rwa [y1, y2] at h2
      exact run_retC hpin e ⟨hS.sw, hS.stop hm (by omega)⟩ [0] rfl rfl (by simp [conj]) rfl (by simp [conj, less_rfl, ren_fnr])
    · have h2 : e (f + r) < e (f + (2 * r + 2)) := by
        simp only [Bool.not_eq_false', decide_eq_true_iff] at h2
        rwa [y1, y2] at h2
      have ih := ih (2 * r + 2, swp e (f + r) (f + (2 * r + 2))) ⟨hS.down hcr (by omega) hm h2, by show 2 * r + 2 < 1000000; omega⟩ (by show hi - (2 * r + 2) < hi - r; omega)
      refine goS hB rfl rfl (by simp [conj, Fits_i64]; omega) ?_
      refine run_back ?_
      refine run_to hpin [0] rfl rfl ?_ ih
      clear ih
      simp only [y1, y2]
      simp [conj, less_rfl, ren_fnr, renR_fnr]
      first | exact fun k _ => Less.of (swp_upd e (f + r) (f + (2 * r + 2)) k).symm | exact ⟨by omega, fun k _ => Less.of (swp_upd e (f + r) (f + (2 * r + 2)) k).symm⟩
  · have hm : ∀ c', (c' = 2 * r + 1 ∨ c' = 2 * r + 2) → c' < hi → e (f + c') ≤ e (f + (2 * r + 1)) := by
      rintro c' (rfl | rfl) h3
      · exact Int.le_refl _
      · rcases Bool.and_eq_false_iff.1 hc with hc | hc
        · simp at hc; omega
        · rw [decide_eq_false_iff_not] at hc
          simp only at hc
          rw [x1, x2] at hc
          omega
    clear hc
    refine goS hB rfl rfl (by simp [conj, Fits_i64]; omega) ?_
    have y1 : 0 + ((f : Int) + (r : Int)).toNat = f + r := by omega
    have y2 : 0 + ((f : Int) + (2 * (r : Int) + 1)).toNat = f + (2 * r + 1) := by omega
    have hcr : 2 * r + 1 = 2 * r + 1 ∨ 2 * r + 1 = 2 * r + 2 := by omega
    refine run_cond rfl (fun h2 => ?_) (fun h2 => ?_)
    · clear ih
      have h2 : ¬ e (f + r) < e (f + (2 * r + 1)) := by
        simp only [Bool.not_eq_true', decide_eq_false_iff_not] at h2
        rwa [y1, y2] at h2
      exact run_retC hpin e ⟨hS.sw, hS.stop hm (by omega)⟩ [0] rfl rfl (by simp [conj]) rfl (by simp [conj, less_rfl, ren_fnr])
    · have h2 : e (f + r) < e (f + (2 * r + 1)) := by
        simp only [Bool.not_eq_false', decide_eq_true_iff] at h2
        rwa [y1, y2] at h2
      have ih := ih (2 * r + 1, swp e (f + r) (f + (2 * r + 1))) ⟨hS.down hcr (by omega) hm h2, by show 2 * r + 1 < 1000000; omega⟩ (by show hi - (2 * r + 1) < hi - r; omega)
      refine goS hB rfl rfl (by simp [conj, Fits_i64]; omega) ?_
      refine run_back ?_
      refine run_to hpin [0] rfl rfl ?_ ih
      clear ih
      simp only [y1, y2]
      simp [conj, less_rfl, ren_fnr, renR_fnr]
      first | exact fun k _ => Less.of (swp_upd e (f + r) (f + (2 * r + 1)) k).symm | exact ⟨by omega, fun k _ => Less.of (swp_upd e (f + r) (f + (2 * r + 1)) k).symm⟩
/-- Under way: from m on all is in place. -/
structure HSt (a b m : Nat) (d e : Dt) : Prop where
  sw : SW a b d e
  hp : Heap 0 m a e
  mb : a + m ≤ b
  lo : ∀ p q, p < m → m ≤ q → a + q < b → e (a + p) ≤ e (a + q)
  hi : ∀ p q, m ≤ p → p < q → a + q < b → e (a + p) ≤ e (a + q)
theorem HSt.pre {a b m : Nat} {d e : Dt} (h : HSt a b (m + 1) d e) : Heap 1 m a (swp e a (a + m)) := fun k c h1 h2 h3 => by
  unfold swp
  rw [if_neg (by omega), if_neg (by omega), if_neg (by omega), if_neg (by omega)]
  exact h.hp k c (by omega) h2 (by omega)
theorem HSt.next {a b m : Nat} {d e g : Dt} (h : HSt a b (m + 1) d e) (hs : SW (a + 0) (a + m) (swp e a (a + m)) g) (hg : Heap 0 m a g) : HSt a b m d g := by
  have mb := h.mb
  have hr := h.hp.root
  have key : ∀ Q : Int → Prop, (∀ k, k < m + 1 → Q (e (a + k))) → ∀ p, p < m → Q (g (a + p)) := by
    intro Q hQ p hp
    refine hs.all Q (fun k k1 k2 => ?_) (a + p) (by omega) (by omega)
    unfold swp
    split
    · exact hQ m (by omega)
    · split
      · omega
      · have := hQ (k - a) (by omega)
        rwa [show a + (k - a) = k by omega] at this
  have hm : g (a + m) = e a := by
    rw [hs.out (a + m) (.inr (Nat.le_refl _))]
    unfold swp
    by_cases q : a + m = a
    · rw [if_pos q, q]
    · rw [if_neg q, if_pos rfl]
  have hq : ∀ q, m < q → g (a + q) = e (a + q) := by
    intro q h1
    rw [hs.out (a + q) (.inr (by omega))]
    unfold swp
    rw [if_neg (by omega), if_neg (by omega)]
  refine ⟨h.sw.trans ((SW.step a (a + m) .refl (Nat.le_refl _) (by omega) (by omega) (by omega)).trans (hs.mono (by omega) (by omega))), hg, by omega, fun p q h1 h2 h3 => ?_, fun p q h1 h2 h3 => ?_⟩
  · by_cases e1 : q = m
    · subst e1
      rw [hm]
      exact key (· ≤ e a) (fun k hk => hr k hk) p h1
    · rw [hq q (by omega)]
      exact key (· ≤ e (a + q)) (fun k hk => h.lo k q hk (by omega) h3) p h1
  · rw [hq q (by omega)]
    by_cases e1 : p = m
    · subst e1
      rw [hm]
      exact h.lo 0 q (by omega) (by omega) h3
    · rw [hq p (by omega)]
      exact h.hi p q (by omega) h2 h3
set_option maxHeartbeats 4000000 in
theorem heap_hc (n cap a b : Nat) (hab : a < b) (hb : b ≤ n) (hn : n < 1000000) (d : Dt) :
    HC Try.prog 90 [.sq 0 0 0 1 n .no, i64 a, i64 b] (rowD n cap d) [] 1 (fun e : Dt => SW a b d e ∧ Srt a b e) (fun e => ⟨.tup [], rowD n cap e, 1⟩) := by
  refine hc_of_run Try.func90 rfl (fun B hB hpin => ?_)
  refine goS hB rfl rfl (by simp [conj, Fits_i64]; omega) ?_
  refine run_loop ?_
  refine run_inv (ι := Nat × Dt) hpin (fun z => SW a b d z.2 ∧ Heap z.1 (b - a) a z.2 ∧ z.1 ≤ b - a) (fun z => z.1) (fun z => [(9, i64 ((z.1 : Int) - 1)), (8, i64 (b - a : Nat)), (7, i64 0), (6, i64 a), (0, .sq 0 0 0 1 n .no)]) (fun _ => []) (fun z => rowD n cap z.2) 1 ((b - a - 1) / 2 + 1, d) ⟨.refl, fun k c h1 h2 h3 => by
      have h1 : (b - a - 1) / 2 + 1 ≤ k := h1
      omega, by show (b - a - 1) / 2 + 1 ≤ b - a; omega⟩
    [0] rfl rfl (by simp [conj, less_rfl, ren_fnr]; omega) ?_
  rintro ⟨m, e⟩ ⟨h1, h2, h3⟩ ih
  have h2 : Heap m (b - a) a e := h2
  have h3 : m ≤ b - a := h3
  refine goS hB rfl rfl (by simp [conj]) ?_
  refine run_cond rfl (fun hc => ?_) (fun hc => ?_)
  · have hm : 1 ≤ m := by simp at hc; omega
    refine goS hB rfl rfl (by simp [conj]) ?_
    refine run_callC (sift_hc n cap (m - 1) (b - a) a (by omega) (by omega) hn e (by rw [show m - 1 + 1 = m by omega]; exact h2)) named hB [0] rfl rfl rfl rfl (by simp [conj]) (by simp [conj, less_rfl, ren_fnr]; omega) ?_
    rintro g ⟨g1, g2⟩
    refine ⟨show 1 ≤ 1 by omega, _, _, _, rfl, rfl, rfl, ?_⟩
    have ih := ih (m - 1, g) ⟨h1.trans (g1.mono (by omega) (by omega)), g2, by show m - 1 ≤ b - a; omega⟩ (by show m - 1 < m; omega)
    refine goS hB rfl rfl (by simp [conj, Fits_i64]; omega) ?_
    refine run_back ?_
    refine run_to hpin [0] rfl rfl ?_ ih
    clear ih
    simp [conj, less_rfl, ren_fnr, renR_fnr]
    omega
  clear ih
  have hm : m = 0 := by simp at hc; omega
  subst hm
  clear hc h3
  refine goS hB rfl rfl (by simp [conj, Fits_i64]; omega) ?_
  refine run_loop ?_
  refine run_inv (ι := Nat × Dt) hpin (fun z => HSt a b z.1 d z.2) (fun z => z.1) (fun z => [(10, i64 ((z.1 : Int) - 1)), (7, i64 0), (6, i64 a), (0, .sq 0 0 0 1 n .no)]) (fun _ => []) (fun z => rowD n cap z.2) 1 (b - a, e) ⟨h1, h2, by show a + (b - a) ≤ b; omega, fun p q g1 g2 g3 => by
      have g2 : b - a ≤ q := g2
      omega, fun p q g1 g2 g3 => by
      have g1 : b - a ≤ p := g1
      omega⟩
    [0] rfl rfl (by simp [conj, less_rfl, ren_fnr]; try omega) ?_
  clear h1 h2
  rintro ⟨m, e⟩ hS ih
  have hS : HSt a b m d e := hS
  have mb := hS.mb
  refine goS hB rfl rfl (by simp [conj]) ?_
  refine run_cond rfl (fun hc => ?_) (fun hc => ?_)
  · have hm : 1 ≤ m := by simp at hc; omega
    obtain ⟨m, rfl⟩ : ∃ m', m = m' + 1 := ⟨m - 1, by omega⟩
    refine goS hB rfl rfl (by simp [conj, Fits_i64]; omega) ?_
    refine run_callC (sift_hc n cap 0 m a (by omega) (by decide) hn (swp e a (a + m)) hS.pre) named hB [0] rfl rfl rfl rfl (by simp [conj]) (by
      simp [conj, less_rfl, ren_fnr, renR_fnr]
      rw [show ((a : Int) + (m : Int)).toNat = a + m by omega]
      exact fun k _ => Less.of (swp_upd e a (a + m) k).symm) ?_
    rintro g ⟨g1, g2⟩
    refine ⟨show 1 ≤ 1 by omega, _, _, _, rfl, rfl, rfl, ?_⟩
    have ih := ih (m, g) (hS.next g1 g2) (by show m < m + 1; omega)
    refine goS hB rfl rfl (by simp [conj, Fits_i64]; omega) ?_
    refine run_back ?_
    refine run_to hpin [0] rfl rfl ?_ ih
    clear ih
    simp [conj, less_rfl, ren_fnr, renR_fnr]
    try omega
  · clear ih
    have hm : m = 0 := by simp at hc; omega
    subst hm
    refine goS hB rfl rfl (by simp [conj]) ?_
    refine run_endC hpin e ⟨hS.sw, fun p q g1 g2 g3 => ?_⟩ [0] rfl rfl (by simp [conj]) rfl (by simp [conj, less_rfl, ren_fnr])
    have := hS.hi (p - a) (q - a) (by omega) (by omega) (by omega)
    rwa [show a + (p - a) = p by omega, show a + (q - a) = q by omega] at this
end Sx
