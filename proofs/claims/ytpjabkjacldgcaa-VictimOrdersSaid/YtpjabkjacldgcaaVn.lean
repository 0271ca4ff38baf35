/- The merge of two sorted parts of a row, as the library does it: the recursive function. Conditions: as each theorem says. -/
import Derived.Test.YtpjabkjacldgcaaVm
namespace Sx
open Go Go.Proofs
theorem one_left {a b i : Nat} {d : Nat → Rk} (h : Mrg a (a + 1) b d) (h1 : a + 1 ≤ i) (h2 : i ≤ b) (l1 : ∀ q, a + 1 ≤ q → q < i → lt (d q) (d a)) (l2 : ∀ q, i ≤ q → q < b → lt (d a) (d q)) : SortedOn a b (rotF d a (a + 1) i) := by
  have va : ∀ k, a ≤ k → k < i - 1 → rotF d a (a + 1) i k = d (k + 1) := fun k k1 k2 => by rw [rot_a k1 (by omega)]; congr 1; omega
  have vb : rotF d a (a + 1) i (i - 1) = d a := by rw [rot_b (by omega) (by omega)]; congr 1; omega
  have vc : ∀ k, i ≤ k → rotF d a (a + 1) i k = d k := fun k => rot_hi (by omega) h1
  intro p q p1 pq q1
  by_cases e1 : p < i - 1
  · rw [va p p1 e1]
    by_cases e2 : q < i - 1
    · rw [va q (by omega) e2]; exact h.r _ _ (by omega) (by omega) (by omega)
    · by_cases e3 : q = i - 1
      · subst e3; rw [vb]; exact l1 _ (by omega) (by omega)
      · rw [vc q (by omega)]; exact h.r _ _ (by omega) (by omega) q1
  · by_cases e3 : p = i - 1
    · subst e3; rw [vb, vc q (by omega)]; exact l2 _ (by omega) q1
    · rw [vc p (by omega), vc q (by omega)]; exact h.r _ _ (by omega) pq q1
theorem one_right {a m i : Nat} {d : Nat → Rk} (h : Mrg a m (m + 1) d) (h1 : a ≤ i) (h2 : i ≤ m) (l1 : ∀ q, a ≤ q → q < i → lt (d q) (d m)) (l2 : ∀ q, i ≤ q → q < m → lt (d m) (d q)) : SortedOn a (m + 1) (rotF d i m (m + 1)) := by
  have va : ∀ k, k < i → rotF d i m (m + 1) k = d k := fun k => rot_lo
  have vb : rotF d i m (m + 1) i = d m := by rw [rot_a (by omega) (by omega)]; congr 1; omega
  have vc : ∀ k, i < k → k ≤ m → rotF d i m (m + 1) k = d (k - 1) := fun k k1 k2 => by rw [rot_b (by omega) (by omega)]; congr 1; omega
  intro p q p1 pq q1
  by_cases e1 : p < i
  · rw [va p e1]
    by_cases e2 : q < i
    · rw [va q e2]; exact h.l _ _ p1 pq (by omega)
    · by_cases e3 : q = i
      · subst e3; rw [vb]; exact l1 _ p1 e1
      · rw [vc q (by omega) (by omega)]; exact h.l _ _ p1 (by omega) (by omega)
  · by_cases e3 : p = i
    · subst e3; rw [vb, vc q (by omega) (by omega)]; exact l2 _ (by omega) (by omega)
    · rw [vc p (by omega) (by omega), vc q (by omega) (by omega)]; exact h.l _ _ (by omega) (by omega) (by omega)
/-- The half of a small number, as the program computes it. -/
theorem half (x : Int) (h0 : 0 ≤ x) (h1 : x < 4000000) : IntKind.i64.wrap ((IntKind.u64.wrap x).fdiv (2 ^ (min (Int.toNat 1) IntKind.u64.bits))) = ((x.toNat / 2 : Nat) : Int) := by
  have e1 : IntKind.u64.wrap x = x := by simp [IntKind.wrap, IntKind.signed, IntKind.bits]; omega
  have e2 : x.fdiv 2 = ((x.toNat / 2 : Nat) : Int) := by rw [Int.fdiv_eq_ediv_of_nonneg _ (by omega)]; omega
  rw [e1]
  have e3 : (2 : Int) ^ (min (Int.toNat 1) IntKind.u64.bits) = 2 := by decide
  rw [e3, e2]
  simp [IntKind.wrap, IntKind.signed, IntKind.bits]
  omega
theorem mid_eq {x m mid : Nat} (h1 : x ≤ m) (h2 : m ≤ mid + m - x) : x + (mid + m - x - m) = mid := by omega
theorem rot_skip {d : Nat → Rk} {x m e : Nat} (h1 : x ≤ m) (h2 : m ≤ e) (h : ¬ (x < m ∧ m < e)) : d = rotF d x m e := by
  by_cases q : x = m
  · rw [q, rotF_id2]
  · rw [show e = m by omega, rotF_id1]
theorem Mrg.over {a b c e : Nat} {d d1 : Nat → Rk} (h : Mrg b c e d) (p : PmS a b d d1) : Mrg b c e d1 := by
  have v : ∀ i, b ≤ i → d1 i = d i := fun i hi => p.out (by omega)
  have := h.am
  refine ⟨h.am, h.mb, fun i j h1 h2 h3 => ?_, fun i j h1 h2 h3 => ?_, fun i j h1 h2 h3 h4 => ?_, fun i h1 h2 => ?_⟩
  · rw [v i h1, v j (by omega)]; exact h.l i j h1 h2 h3
  · rw [v i (by omega), v j (by omega)]; exact h.r i j h1 h2 h3
  · rw [v i h1, v j (by omega)]; exact h.at_ i j h1 h2 h3 h4
  · rw [v i h1]; exact h.g i h1 h2
theorem Cut.fin {a m b s e mid : Nat} {d d1 d2 : Nat → Rk} (c : Cut a m b s e d) (h : Mrg a m b d) (hm : s + (e - m) = mid) (p1 : PmS a mid (rotF d s m e) d1) (s1 : SortedOn a mid d1)
    (p2 : PmS mid b d1 d2) (s2 : SortedOn mid b d2) : PmS a b d d2 ∧ SortedOn a b d2 := by
  subst hm; exact c.done h p1 s1 p2 s2
theorem goodR {x : Rk} (h : good x) : rightB x.c.v x.c.p x.c.a = true := h.1
abbrev symOk (a b : Nat) (d : Nat → Rk) (d' : Nat → Rk) : Prop := PmS a b d d' ∧ SortedOn a b d'
set_option maxHeartbeats 2000000 in
theorem sym_hc (N cap : Nat) (hN : N < 1000000) : ∀ (kk a m b : Nat) (d : Nat → Rk), b - a ≤ kk → a < m → m < b → b ≤ N → Mrg a m b d →
    HC Try.prog 36 [.sq 0 0 0 5 N .no, .int .i64 a, .int .i64 m, .int .i64 b, by27] (rowH N cap d) [] 1 (symOk a b d) (fun d' => ⟨.tup [], rowH N cap d', 1⟩) := by
  intro kk
  induction kk with
  | zero => intro a m b d h0 h1 h2; omega
  | succ kk ihk => ?_
  intro a m b d h0 h1 h2 h3 hM
  refine hc_of_run Try.func36 rfl (fun B hB hpin => ?_)
  refine goN hB s7_ok rfl rfl (by simp only [conj, Fits_i64, and_true, true_and, imp_self]; omega) ?_
  refine run_cond rfl (fun h => ?_) (fun h => ?_)
  · have ha : m = a + 1 := by simp at h; omega
    subst ha
    refine goN hB s7_ok rfl rfl (by simp [conj]) ?_
    refine run_loop ?_
    refine run_inv (ι := Nat × Nat) hpin (fun x => a + 1 ≤ x.1 ∧ x.1 ≤ x.2 ∧ x.2 ≤ b ∧ (∀ q, a + 1 ≤ q → q < x.1 → lt (d q) (d a)) ∧ (∀ q, x.2 ≤ q → q < b → lt (d a) (d q))) (fun x => x.2 - x.1)
      (fun x => [(0, .sq 0 0 0 5 N .no), (1, .int .i64 a), (4, by27), (10, .int .i64 (x.1 : Int)), (11, .int .i64 (x.2 : Int))]) (fun _ => []) (fun _ => rowH N cap d) 1 (a + 1, b)
      ⟨Nat.le_refl _, by show a + 1 ≤ b; omega, Nat.le_refl _, fun q q1 q2 => by omega, fun q q1 q2 => by omega⟩ [0] rfl rfl (by simp [conj, ren_rk, less_rfl]) ?_
    rintro ⟨i, j⟩ ⟨p1, p2, p3, p4, p5⟩ ih
    have p1 : a + 1 ≤ i := p1
    have p2 : i ≤ j := p2
    have p3 : j ≤ b := p3
    refine goN hB s7_ok rfl rfl (by simp [conj]) ?_
    refine run_cond rfl (fun hij => ?_) (fun hij => ?_)
    · have hij : i < j := by simpa using hij
      have hh := half ((i : Int) + (j : Int)) (by omega) (by omega)
      obtain ⟨c, hc⟩ : ∃ c, c = ((i : Int) + (j : Int)).toNat / 2 := ⟨_, rfl⟩
      rw [← hc] at hh
      have c1 : i ≤ c ∧ c < j := by omega
      have gc := goodR (hM.g c (by omega) (by omega))
      have ga := goodR (hM.g a (by omega) (by omega))
      have ec : 0 + (c : Int).toNat = c := by omega
      have ea : 0 + (a : Int).toNat = a := by omega
      refine goN hB s7_ok rfl rfl (by simp only [conj, Fits_i64, and_true, true_and, hh, ec, ea, gc, ga]; omega) ?_
      refine run_cond rfl (fun hq => ?_) (fun hq => ?_)
      · have hq : cmpC (d c).c (d a).c < 0 := by simp only [hh, ec, ea] at hq; simpa using hq
        refine goN hB s7_ok rfl rfl (by simp only [conj, Fits_i64, and_true, true_and, hh]; omega) ?_
        refine run_back ?_
        refine run_to hpin [0] rfl rfl (by simp only [hh]; simp [conj, ren_rk, less_rfl]) (ih (c + 1, j) ⟨by show a + 1 ≤ c + 1; omega, by show c + 1 ≤ j; omega, p3, fun q q1 q2 => ?_, p5⟩ (by show j - (c + 1) < j - i; omega))
        have q2 : q < c + 1 := q2
        by_cases e : q = c
        · rw [e]; exact .inl hq
        · exact lt_trans (hM.g q (by omega) (by omega)) (hM.g c (by omega) (by omega)) (hM.g a (by omega) (by omega)) (hM.r q c (by omega) (by omega) (by omega)) (.inl hq)
      · have hq : ¬ cmpC (d c).c (d a).c < 0 := by simp only [hh, ec, ea] at hq; simpa using hq
        refine goN hB s7_ok rfl rfl (by simp [conj]) ?_
        refine run_back ?_
        have hl := hM.lo (i := a) (j := c) (by omega) (by omega) (by omega) (by omega) hq
        refine run_to hpin [0] rfl rfl (by simp only [hh]; simp [conj, ren_rk, less_rfl]) (ih (i, c) ⟨p1, by show i ≤ c; omega, by show c ≤ b; omega, p4, fun q q1 q2 => ?_⟩ (by show c - i < j - i; omega))
        have q1 : c ≤ q := q1
        by_cases e : q = c
        · rw [e]; exact hl
        · exact lt_trans (hM.g a (by omega) (by omega)) (hM.g c (by omega) (by omega)) (hM.g q (by omega) (by omega)) hl (hM.r c q (by omega) (by omega) (by omega))
    · have hij : i = j := by simp at hij; omega
      subst hij
      refine goN hB s7_ok rfl rfl (by simp [conj]) ?_
      refine run_loop ?_
      refine run_inv (ι := Nat) hpin (fun k => a ≤ k ∧ k ≤ i - 1) (fun k => b - k)
        (fun k => [(0, .sq 0 0 0 5 N .no), (10, .int .i64 (i : Int)), (13, .int .i64 (k : Int))]) (fun _ => []) (fun k => rowH N cap (rotF d a (a + 1) (k + 1))) 1 a
        ⟨Nat.le_refl _, by omega⟩ [0] rfl rfl (by simp [conj, ren_rk, less_rfl, rotF_id1]) ?_
      rintro k ⟨k1, k2⟩ ih2
      refine goN hB s7_ok rfl rfl (by simp only [conj, Fits_i64, and_true, true_and, imp_self]; omega) ?_
      refine run_cond rfl (fun hk => ?_) (fun hk => ?_)
      · have hk : k < i - 1 := by simp at hk; omega
        have e1 : 0 + (k : Int).toNat = k := by omega
        have e2 : 0 + ((k : Int) + 1).toNat = k + 1 := by omega
        refine goN hB s7_ok rfl rfl (by simp only [conj, Fits_i64, and_true, true_and, imp_self]; omega) ?_
        refine run_back ?_
        refine run_to hpin [0] rfl rfl (by
          simp only [e1, e2, updF_rk, swp_upd (show k + 1 ≠ k by omega), rot_up d a k k1, ren_rk]
          simp [conj, less_rfl]) (ih2 (k + 1) ⟨by omega, by omega⟩ (by omega))
      · have hk : k + 1 = i := by simp at hk; omega
        subst hk
        refine goN hB s7_ok rfl rfl (by simp [conj]) ?_
        refine run_retC hpin (rotF d a (a + 1) (k + 1)) ⟨PmS.rot d (Nat.le_refl _) (by omega) (by omega) (by omega), one_left hM (by omega) (by omega) p4 p5⟩ [0] rfl rfl (by simp [conj]) rfl (by simp [conj, ren_rk, less_rfl])
  have ha : a + 1 < m := by simp at h; omega
  clear h
  refine goN hB s7_ok rfl rfl (by simp only [conj, Fits_i64, and_true, true_and, imp_self]; omega) ?_
  refine run_cond rfl (fun h => ?_) (fun h => ?_)
  · have hb : b = m + 1 := by simp at h; omega
    subst hb
    refine goN hB s7_ok rfl rfl (by simp [conj]) ?_
    refine run_loop ?_
    refine run_inv (ι := Nat × Nat) hpin (fun x => a ≤ x.1 ∧ x.1 ≤ x.2 ∧ x.2 ≤ m ∧ (∀ q, a ≤ q → q < x.1 → lt (d q) (d m)) ∧ (∀ q, x.2 ≤ q → q < m → lt (d m) (d q))) (fun x => x.2 - x.1)
      (fun x => [(0, .sq 0 0 0 5 N .no), (2, .int .i64 m), (4, by27), (14, .int .i64 (x.1 : Int)), (15, .int .i64 (x.2 : Int))]) (fun _ => []) (fun _ => rowH N cap d) 1 (a, m)
      ⟨Nat.le_refl _, by show a ≤ m; omega, Nat.le_refl _, fun q q1 q2 => by omega, fun q q1 q2 => by omega⟩ [0] rfl rfl (by simp [conj, ren_rk, less_rfl]) ?_
    rintro ⟨i, j⟩ ⟨p1, p2, p3, p4, p5⟩ ih
    have p1 : a ≤ i := p1
    have p2 : i ≤ j := p2
    have p3 : j ≤ m := p3
    refine goN hB s7_ok rfl rfl (by simp [conj]) ?_
    refine run_cond rfl (fun hij => ?_) (fun hij => ?_)
    · have hij : i < j := by simpa using hij
      have hh := half ((i : Int) + (j : Int)) (by omega) (by omega)
      obtain ⟨c, hc⟩ : ∃ c, c = ((i : Int) + (j : Int)).toNat / 2 := ⟨_, rfl⟩
      rw [← hc] at hh
      have c1 : i ≤ c ∧ c < j := by omega
      have gc := goodR (hM.g c (by omega) (by omega))
      have gm := goodR (hM.g m (by omega) (by omega))
      have ec : 0 + (c : Int).toNat = c := by omega
      have em : 0 + (m : Int).toNat = m := by omega
      refine goN hB s7_ok rfl rfl (by simp only [conj, Fits_i64, and_true, true_and, hh, ec, em, gc, gm]; omega) ?_
      refine run_cond rfl (fun hq => ?_) (fun hq => ?_)
      · have hq : ¬ cmpC (d m).c (d c).c < 0 := by simp only [hh, ec, em] at hq; simpa using hq
        have hl := hM.lo (i := c) (j := m) (by omega) (by omega) (by omega) (by omega) hq
        refine goN hB s7_ok rfl rfl (by simp only [conj, Fits_i64, and_true, true_and, hh]; omega) ?_
        refine run_back ?_
        refine run_to hpin [0] rfl rfl (by simp only [hh]; simp [conj, ren_rk, less_rfl]) (ih (c + 1, j) ⟨by show a ≤ c + 1; omega, by show c + 1 ≤ j; omega, p3, fun q q1 q2 => ?_, p5⟩ (by show j - (c + 1) < j - i; omega))
        have q2 : q < c + 1 := q2
        by_cases e : q = c
        · rw [e]; exact hl
        · exact lt_trans (hM.g q (by omega) (by omega)) (hM.g c (by omega) (by omega)) (hM.g m (by omega) (by omega)) (hM.l q c (by omega) (by omega) (by omega)) hl
      · have hq : cmpC (d m).c (d c).c < 0 := by simp only [hh, ec, em] at hq; simpa using hq
        refine goN hB s7_ok rfl rfl (by simp [conj]) ?_
        refine run_back ?_
        refine run_to hpin [0] rfl rfl (by simp only [hh]; simp [conj, ren_rk, less_rfl]) (ih (i, c) ⟨p1, by show i ≤ c; omega, by show c ≤ m; omega, p4, fun q q1 q2 => ?_⟩ (by show c - i < j - i; omega))
        have q1 : c ≤ q := q1
        by_cases e : q = c
        · rw [e]; exact .inl hq
        · exact lt_trans (hM.g m (by omega) (by omega)) (hM.g c (by omega) (by omega)) (hM.g q (by omega) (by omega)) (.inl hq) (hM.l c q (by omega) (by omega) (by omega))
    · have hij : i = j := by simp at hij; omega
      subst hij
      refine goN hB s7_ok rfl rfl (by simp [conj]) ?_
      refine run_loop ?_
      refine run_inv (ι := Nat) hpin (fun k => i ≤ k ∧ k ≤ m) (fun k => k)
        (fun k => [(0, .sq 0 0 0 5 N .no), (14, .int .i64 (i : Int)), (17, .int .i64 (k : Int))]) (fun _ => []) (fun k => rowH N cap (rotF d k m (m + 1))) 1 m
        ⟨by omega, Nat.le_refl _⟩ [0] rfl rfl (by simp [conj, ren_rk, less_rfl, rotF_id2]) ?_
      rintro k ⟨k1, k2⟩ ih2
      refine goN hB s7_ok rfl rfl (by simp [conj]) ?_
      refine run_cond rfl (fun hk => ?_) (fun hk => ?_)
      · have hk : i < k := by simp at hk; omega
        have e1 : 0 + (k : Int).toNat = k := by omega
        have e2 : 0 + ((k : Int) - 1).toNat = k - 1 := by omega
        refine goN hB s7_ok rfl rfl (by simp only [conj, Fits_i64, and_true, true_and, imp_self]; omega) ?_
        refine run_back ?_
        refine run_to hpin [0] rfl rfl (by
          simp only [e1, e2, updF_rk, swp_upd (show k - 1 ≠ k by omega), rot_down d m k k2 (by omega), ren_rk]
          simp [conj, less_rfl]; omega) (ih2 (k - 1) ⟨by omega, by omega⟩ (by omega))
      · have hk : k = i := by simp at hk; omega
        subst hk
        refine goN hB s7_ok rfl rfl (by simp [conj]) ?_
        refine run_retC hpin (rotF d k m (m + 1)) ⟨PmS.rot d (by omega) (by omega) (by omega) (by omega), one_right hM (by omega) (by omega) p4 p5⟩ [0] rfl rfl (by simp [conj]) rfl (by simp [conj, ren_rk, less_rfl])
  have hb : m + 1 < b := by simp at h; omega
  clear h
  have hh := half ((a : Int) + (b : Int)) (by omega) (by omega)
  rw [show ((a : Int) + (b : Int)).toNat / 2 = (a + b) / 2 by omega] at hh
  refine goN hB s7_ok rfl rfl (by simp only [conj, Fits_i64, and_true, true_and, hh]; omega) ?_
  obtain ⟨mid, hmid⟩ : ∃ mid, mid = (a + b) / 2 := ⟨_, rfl⟩
  rw [← hmid] at hh
  refine run_to hpin [0] (sl' := [(0, .sq 0 0 0 5 N .no), (1, .int .i64 a), (2, .int .i64 m), (3, .int .i64 b), (4, by27), (18, .int .i64 mid), (19, .int .i64 ((mid + m : Nat) : Int)), (140, .sb (decide (mid < m)))])
    (rest' := []) (hp' := rowH N cap d) rfl rfl (by simp only [hh]; simp [conj, ren_rk, less_rfl]) ?_
  obtain ⟨s0, r0, hs, hs2⟩ : ∃ s0 r0 : Nat, ((m > (a + b) / 2 ∧ s0 = (a + b) / 2 + m - b ∧ r0 = (a + b) / 2) ∨ (m ≤ (a + b) / 2 ∧ s0 = a ∧ r0 = m)) ∧ ((mid < m → (s0 : Int) = ((mid + m : Nat) : Int) - (b : Int) ∧ r0 = mid) ∧ (¬ mid < m → s0 = a ∧ r0 = m)) := by
    by_cases h : m > (a + b) / 2
    · exact ⟨(a + b) / 2 + m - b, (a + b) / 2, .inl ⟨h, rfl, rfl⟩, fun _ => ⟨by omega, by omega⟩, fun q => by omega⟩
    · exact ⟨a, m, .inr ⟨by omega, rfl, rfl⟩, fun q => by omega, fun _ => ⟨rfl, rfl⟩⟩
  refine run_cond rfl (fun h => ?_) (fun h => ?_)
  case' refine_1 => obtain ⟨w1, w2⟩ := hs2.1 (by simpa using h)
  case' refine_2 => obtain ⟨w1, w2⟩ := hs2.2 (by simpa using h)
  all_goals
    clear h
    refine goN hB s7_ok rfl rfl (by simp only [conj, Fits_i64, and_true, true_and, imp_self]; omega) ?_
    refine run_loop ?_
    refine run_inv (ι := Nat × Nat) hpin (fun x => Srch a m b (mid + m - 1) d s0 r0 x.1 x.2) (fun x => x.2 - x.1)
      (fun x => [(0, .sq 0 0 0 5 N .no), (1, .int .i64 a), (2, .int .i64 m), (3, .int .i64 b), (4, by27), (18, .int .i64 mid), (19, .int .i64 ((mid + m : Nat) : Int)), (20, .int .i64 (x.1 : Int)), (21, .int .i64 (x.2 : Int)), (22, .int .i64 ((mid + m - 1 : Nat) : Int))])
      (fun _ => []) (fun _ => rowH N cap d) 1 (s0, r0)
      ⟨Nat.le_refl _, by show s0 ≤ r0; omega, Nat.le_refl _, .inl rfl, .inl rfl⟩ [0] rfl rfl (by simp [conj, ren_rk, less_rfl]; omega) ?_
    rintro ⟨x, y⟩ hI ih
    have x0 : s0 ≤ x := hI.x0
    have xy : x ≤ y := hI.xy
    have y0 : y ≤ r0 := hI.y0
    refine goN hB s7_ok rfl rfl (by simp [conj]) ?_
    refine run_cond rfl (fun hij => ?_) (fun hij => ?_)
    · have hij : x < y := by simpa using hij
      have hh2 := half ((x : Int) + (y : Int)) (by omega) (by omega)
      obtain ⟨c, hc⟩ : ∃ c, c = ((x : Int) + (y : Int)).toNat / 2 := ⟨_, rfl⟩
      rw [← hc] at hh2
      have c1 : x ≤ c ∧ c < y := by omega
      have c2 : a ≤ c ∧ c < m ∧ m ≤ mid + m - 1 - c ∧ mid + m - 1 - c < b := by omega
      have gc := goodR (hM.g c (by omega) (by omega))
      have ge := goodR (hM.g (mid + m - 1 - c) (by omega) (by omega))
      have ec : 0 + (c : Int).toNat = c := by omega
      have ee : 0 + (((mid + m - 1 : Nat) : Int) - (c : Int)).toNat = mid + m - 1 - c := by omega
      refine goN hB s7_ok rfl rfl (by simp only [conj, Fits_i64, and_true, true_and, hh2, ec, ee, gc, ge]; omega) ?_
      refine run_cond rfl (fun hq => ?_) (fun hq => ?_)
      · have hq : ¬ cmpC (d (mid + m - 1 - c)).c (d c).c < 0 := by simp only [hh2, ec, ee] at hq; simpa using hq
        have hl := hM.lo (i := c) (j := mid + m - 1 - c) (by omega) (by omega) (by omega) (by omega) hq
        refine goN hB s7_ok rfl rfl (by simp only [conj, Fits_i64, and_true, true_and, hh2]; omega) ?_
        refine run_back ?_
        refine run_to hpin [0] rfl rfl (by simp only [hh2]; simp [conj, ren_rk, less_rfl]) (ih (c + 1, y) ⟨by show s0 ≤ c + 1; omega, by show c + 1 ≤ y; omega, y0, .inr ⟨by show s0 < c + 1; omega, hl⟩, hI.hi⟩ (by show y - (c + 1) < y - x; omega))
      · have hq : cmpC (d (mid + m - 1 - c)).c (d c).c < 0 := by simp only [hh2, ec, ee] at hq; simpa using hq
        refine goN hB s7_ok rfl rfl (by simp [conj]) ?_
        refine run_back ?_
        refine run_to hpin [0] rfl rfl (by simp only [hh2]; simp [conj, ren_rk, less_rfl]) (ih (x, c) ⟨x0, by show x ≤ c; omega, by show c ≤ r0; omega, hI.lo, .inr ⟨by show c < r0; omega, .inl hq⟩⟩ (by show c - x < y - x; omega))
    · have hij : x = y := by simp at hij; omega
      subst hij
      have hC : Cut a m b x (mid + m - x) d := by
        have := Srch.cut hM h1 h2 hs (by rw [← hmid]; exact hI)
        rw [← hmid] at this; exact this
      have hmx : x + (mid + m - x - m) = mid := mid_eq hC.s2 hC.e1
      have hL := hC.left hM
      have hR := hC.right hM
      rw [hmx] at hL hR
      have q1 := hC.s1
      have q2 := hC.s2
      have q3 := hC.e1
      have q4 := hC.e2
      refine goN hB s7_ok rfl rfl (by simp only [conj, Fits_i64, and_true, true_and, imp_self]; omega) ?_
      have hrest : ∀ d' : Nat → Rk, PmS a b d d' → True := fun _ _ => trivial
      refine run_cond rfl (fun hro => ?_) (fun hro => ?_)
      case' refine_1 =>
        have hro : x < m ∧ m < mid + m - x := by simp at hro; omega
        refine goN hB s7_ok rfl rfl (by simp [conj]) ?_
        refine run_callC (rotate_hc N cap x m (mid + m - x) d hro.1 hro.2 (by omega) hN) named hB [0] rfl rfl rfl rfl (by simp [conj]) (by simp [conj, ren_rk, less_rfl]; omega) ?_
        rintro d' rfl
        refine ⟨Nat.le_refl _, _, _, _, rfl, rfl, rfl, ?_⟩
        refine run_heap (hp' := rowH N cap (rotF d x m (mid + m - x))) (by simp only [renR_rk]) ?_
      case' refine_2 =>
        have hro : ¬ (x < m ∧ m < mid + m - x) := by simp at hro; omega
        refine run_heap (hp' := rowH N cap (rotF d x m (mid + m - x))) (by rw [← rot_skip q2 q3 hro]) ?_
      all_goals
        refine goN hB s7_ok rfl rfl (by simp [conj]) ?_
        refine run_cond rfl (fun hl => ?_) (fun hl => ?_)
        · have hl : a < x ∧ x < mid := by simpa using hl
          refine goN hB s7_ok rfl rfl (by simp [conj]) ?_
          refine run_callC (ihk a x mid (rotF d x m (mid + m - x)) (by omega) hl.1 hl.2 (by omega) hL) named hB [0] rfl rfl rfl rfl (by simp [conj]) (by simp [conj, ren_rk, less_rfl]) ?_
          rintro d1 ⟨p1, p2⟩
          refine ⟨Nat.le_refl _, _, _, _, rfl, rfl, rfl, ?_⟩
          refine run_heap (hp' := rowH N cap d1) (by simp only [renR_rk]) ?_
          refine goN hB s7_ok rfl rfl (by simp [conj]) ?_
          have hR1 := hR.over p1
          refine run_cond rfl (fun hr => ?_) (fun hr => ?_)
          · have hr : mid < mid + m - x ∧ mid + m - x < b := by simp at hr; omega
            refine goN hB s7_ok rfl rfl (by simp [conj]) ?_
            refine run_callC (ihk mid (mid + m - x) b d1 (by omega) hr.1 hr.2 (by omega) hR1) named hB [0] rfl rfl rfl rfl (by simp [conj]) (by simp [conj, ren_rk, less_rfl]; omega) ?_
            rintro d2 ⟨p3, p4⟩
            refine ⟨Nat.le_refl _, _, _, _, rfl, rfl, rfl, ?_⟩
            refine run_heap (hp' := rowH N cap d2) (by simp only [renR_rk]) ?_
            refine goN hB s7_ok rfl rfl (by simp [conj]) ?_
            exact run_endC hpin d2 (hC.fin hM hmx p1 p2 p3 p4) [0] rfl rfl (by simp [conj]) rfl (by simp [conj, ren_rk, less_rfl])
          · have hr : ¬ (mid < mid + m - x ∧ mid + m - x < b) := by simp at hr; omega
            refine goN hB s7_ok rfl rfl (by simp [conj]) ?_
            exact run_endC hpin d1 (hC.fin hM hmx p1 p2 (PmS.refl _ _ _) (hR1.bare hr)) [0] rfl rfl (by simp [conj]) rfl (by simp [conj, ren_rk, less_rfl])
        · have hl : ¬ (a < x ∧ x < mid) := by simp at hl; omega
          refine goN hB s7_ok rfl rfl (by simp [conj]) ?_
          refine run_cond rfl (fun hr => ?_) (fun hr => ?_)
          · have hr : mid < mid + m - x ∧ mid + m - x < b := by simp at hr; omega
            refine goN hB s7_ok rfl rfl (by simp [conj]) ?_
            refine run_callC (ihk mid (mid + m - x) b (rotF d x m (mid + m - x)) (by omega) hr.1 hr.2 (by omega) hR) named hB [0] rfl rfl rfl rfl (by simp [conj]) (by simp [conj, ren_rk, less_rfl]; omega) ?_
            rintro d2 ⟨p3, p4⟩
            refine ⟨Nat.le_refl _, _, _, _, rfl, rfl, rfl, ?_⟩
            refine run_heap (hp' := rowH N cap d2) (by simp only [renR_rk]) ?_
            refine goN hB s7_ok rfl rfl (by simp [conj]) ?_
            exact run_endC hpin d2 (hC.fin hM hmx (PmS.refl _ _ _) (hL.bare hl) p3 p4) [0] rfl rfl (by simp [conj]) rfl (by simp [conj, ren_rk, less_rfl])
          · have hr : ¬ (mid < mid + m - x ∧ mid + m - x < b) := by simp at hr; omega
            refine goN hB s7_ok rfl rfl (by simp [conj]) ?_
            exact run_endC hpin (rotF d x m (mid + m - x)) (hC.fin hM hmx (PmS.refl _ _ _) (hL.bare hl) (PmS.refl _ _ _) (hR.bare hr)) [0] rfl rfl (by simp [conj]) rfl (by simp [conj, ren_rk, less_rfl])
end Sx
