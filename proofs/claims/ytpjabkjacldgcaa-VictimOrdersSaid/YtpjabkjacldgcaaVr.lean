/- The reference's order of the useful candidates: its function. Conditions: as each theorem says. -/
import Derived.Test.YtpjabkjacldgcaaVo
namespace Sx
open Go Go.Proofs
theorem stor_ir (o : Nat → Nat) (i k : Nat) (hk : k < 1) : storable (ir o i k) = true := by
  have : k = 0 := by omega
  subst this; rfl
theorem ins_row (o : Nat → Nat) (k x m : Nat) (g : Nat → Nat → SV) (i' k' : Nat) (_h : k ≤ m) (_hi : i' < m + 1) (hk : k' < 1) :
    appF (appF (appF g 0 fun i k => ir o (0 + i) k) (0 + k) fun i k => [SV.int .i64 (x : Int)].getD ((0 + i) * 1 + k) .und) (0 + k + 1) (fun i kk => ir o (0 + k + i) kk) i' k' = ir (ins o k x) i' k' := by
  have : k' = 0 := by omega
  subst this
  have blt : ∀ a b : Nat, Nat.blt a b = decide (a < b) := fun a b => by
    by_cases h : a < b
    · simp [Nat.blt_eq, h]
    · cases hh : Nat.blt a b with
      | true => exact absurd (by simpa [Nat.blt_eq] using hh) h
      | false => simp [h]
  unfold appF
  simp only [blt]
  unfold ins
  rcases Nat.lt_trichotomy i' k with q | q | q
  · simp only [show i' < 0 + k + 1 by omega, show i' < 0 + k by omega, show ¬ i' < 0 by omega, decide_true, decide_false, cond_true, cond_false]
    unfold ir
    simp only [if_pos q]
    congr 2
    all_goals (try omega)
    congr 1; omega
  · subst q
    simp only [show i' < 0 + i' + 1 by omega, show ¬ i' < 0 + i' by omega, decide_true, decide_false, cond_true, cond_false]
    have e : i' - (0 + i') = 0 := by omega
    rw [e]
    unfold ir
    simp
  · simp only [show ¬ i' < 0 + k + 1 by omega, decide_false, cond_false]
    unfold ir
    simp only [show ¬ i' < k by omega, show ¬ i' = k by omega, if_false]
    have e : 0 + k + (i' - (0 + k + 1)) = i' - 1 := by omega
    rw [e]
set_option maxHeartbeats 1000000 in
theorem reforder_hc (off n : Nat) (c : Nat → Cd) (hn : n ≤ 1000) :
    HC Try.prog 10 [.sq 0 off 0 4 n .no] [] (candH off n c) 1 (rfOk n c) rfOut := by
  refine hc_of_run Try.func10 rfl (fun B hB hpin => ?_)
  refine goN hB s10_ok rfl rfl (by simp [conj]) ?_
  refine run_loop ?_
  refine run_inv (ι := Nat × Nat × (Nat → Nat)) hpin (fun x => x.1 ≤ n ∧ (∀ k, k < x.1 → (c k).ok = true) ∧ x.2.1 ≤ x.1 ∧ Rank x.1 c x.2.1 x.2.2) (fun x => n - x.1)
    (fun x => [(0, .sq 0 off 0 4 n .no), (4, .sq 1 0 0 1 x.2.1 .own), (5, .int .i64 (x.1 : Int))]) (fun _ => []) (fun x => [(1, .row 0 x.2.1 x.2.1 1 (ir x.2.2) 3)]) 2 (0, 0, id)
    ⟨by simp, fun k h => by simp at h, Nat.le_refl _, Rank.zero c id⟩ [0, 1] rfl rfl (by simp [conj, ren_ck, less_rfl]) ?_
  rintro ⟨i, m, o⟩ ⟨h1, h2, h3, h4⟩ ih
  have h1 : i ≤ n := h1
  have h2 : ∀ k, k < i → (c k).ok = true := h2
  have h3 : m ≤ i := h3
  have h4 : Rank i c m o := h4
  have ei : 0 + (i : Int).toNat = i := by omega
  refine goN hB s10_ok rfl rfl (by simp [conj]) ?_
  refine run_cond rfl (fun h => ?_) (fun h => ?_)
  · have hi : i < n := by simpa using h
    refine goN hB s10_ok rfl rfl (by simp only [conj, Fits_i64, and_true, true_and]; omega) ?_
    refine run_cond rfl (fun hu => ?_) (fun hu => ?_)
    · have hu : (c i).ok = false := by simp only [ei] at hu; simpa [Cd.ok] using hu
      refine goN hB s10_ok rfl rfl (by simp [conj]) ?_
      exact run_retC hpin none ⟨i, hi, hu⟩ [0, 1] rfl rfl (by simp [conj]) rfl (by simp [conj, ren_ck, less_rfl])
    have hok : (c i).ok = true := by simp only [ei] at hu; simpa [Cd.ok] using hu
    have hv : ∀ j, j < i + 1 → (c j).ok = true := fun j hj => by
      by_cases e : j = i
      · rw [e]; exact hok
      · exact h2 j (by omega)
    refine goN hB s10_ok rfl rfl (by simp only [conj, Fits_i64, and_true, true_and]; omega) ?_
    refine run_cond rfl (fun hs => ?_) (fun hs => ?_)
    · have hs : (c i).use = false := by
        simp only [ei] at hs
        have hs' : (!((c i).ok && (c i).use)) = true := hs
        rw [hok] at hs'; simpa using hs'
      refine goN hB s10_ok rfl rfl (by simp only [conj, Fits_i64, and_true, true_and]; omega) ?_
      refine run_back ?_
      refine run_to hpin [0, 1] rfl rfl (by simp [conj, ren_ir, ren_ck, less_rfl]) (ih (i + 1, m, o) ⟨by show i + 1 ≤ n; omega, hv, by show m ≤ i + 1; omega, h4.skip hs⟩ (by show n - (i + 1) < n - i; omega))
    have hs : (c i).use = true := by
      simp only [ei] at hs
      have hs' : (!((c i).ok && (c i).use)) = false := hs
      rw [hok] at hs'; simpa using hs'
    refine goN hB s10_ok rfl rfl (by simp [conj]) ?_
    refine run_loop ?_
    refine run_inv (ι := Nat) hpin (fun k => k ≤ m ∧ ∀ a, k ≤ a → a < m → lt (allR c i) (allR c (o a))) (fun k => k)
      (fun k => [(0, .sq 0 off 0 4 n .no), (4, .sq 1 0 0 1 m .own), (5, .int .i64 (i : Int)), (6, .int .i64 (k : Int))]) (fun _ => []) (fun _ => [(1, .row 0 m m 1 (ir o) 3)]) 2 m
      ⟨Nat.le_refl _, fun a a1 a2 => by omega⟩ [0, 1] rfl rfl (by simp [conj, ren_ir, ren_ck, less_rfl]) ?_
    rintro k ⟨k1, k2⟩ ih2
    have gi : good (allR c i) := ⟨hok, hs⟩
    have hio : (⟨(c i).b, (c i).v, (c i).p, (c i).a⟩ : Cd).ok = true := hok
    have hiu : (⟨(c i).b, (c i).v, (c i).p, (c i).a⟩ : Cd).use = true := hs
    refine goN hB s10_ok rfl rfl (by
      by_cases hk : 0 < k
      · have e1 : 0 + ((k : Int) - 1).toNat = k - 1 := by omega
        have e2 : (0 : Nat) + ((o (k - 1) : Nat) : Int).toNat = o (k - 1) := by omega
        have hoo := h4.use (k - 1) (by omega)
        have hjo : (⟨(c (o (k - 1))).b, (c (o (k - 1))).v, (c (o (k - 1))).p, (c (o (k - 1))).a⟩ : Cd).ok = true := h2 _ hoo.1
        have hju : (⟨(c (o (k - 1))).b, (c (o (k - 1))).v, (c (o (k - 1))).p, (c (o (k - 1))).a⟩ : Cd).use = true := hoo.2
        simp only [ei, e1, e2, conj, Fits_i64, and_true, true_and, imp_self, hio, hiu, hjo, hju]
        simp [hk]
        have := hoo.1
        omega
      · simp [conj, hk]) ?_
    refine run_cond rfl (fun hq => ?_) (fun hq => ?_)
    · have hk : 0 < k := by simp at hq; omega
      have e1 : 0 + ((k : Int) - 1).toNat = k - 1 := by omega
      have e2 : (0 : Nat) + ((o (k - 1) : Nat) : Int).toNat = o (k - 1) := by omega
      have hq : cmpC (c i) (c (o (k - 1))) < 0 := by
        simp only [ei, e1, e2] at hq
        simp at hq; exact hq.2
      refine goN hB s10_ok rfl rfl (by simp only [conj, Fits_i64, and_true, true_and]; omega) ?_
      refine run_back ?_
      have hoo := h4.use (k - 1) (by omega)
      have hl : lt (allR c i) (allR c (o (k - 1))) := .inl hq
      refine run_to hpin [0, 1] rfl rfl (by simp [conj, ren_ir, ren_ck, less_rfl]; omega) (ih2 (k - 1) ⟨by omega, fun a a1 a2 => ?_⟩ (by omega))
      by_cases e : a = k - 1
      · rw [e]; exact hl
      · exact k2 a (by omega) a2
    · have hq : ¬ (0 < k ∧ cmpC (c i) (c (o (k - 1))) < 0) := by
        rintro ⟨q1, q2⟩
        have e1 : 0 + ((k : Int) - 1).toNat = k - 1 := by omega
        have e2 : (0 : Nat) + ((o (k - 1) : Nat) : Int).toNat = o (k - 1) := by omega
        simp only [ei, e1, e2] at hq
        have hc' : (decide ((0 : Int) < (k : Int)) && decide (cmpC (c i) (c (o (k - 1))) < 0)) = false := hq
        simp [q1] at hc'; omega
      refine goN hB s10_ok rfl rfl (by
        simp only [conj, Fits_i64]
        repeat' apply And.intro
        all_goals first | exact fun _ _ _ hk => stor_ir _ _ _ hk | trivial | (simp only [List.length_cons, List.length_nil]; omega) | omega) ?_
      refine run_back ?_
      have hbef : ∀ a, a < k → lt (allR c (o a)) (allR c i) := by
        intro a ha
        have hoo := h4.use (k - 1) (by omega)
        have gk : good (allR c (o (k - 1))) := h4.good h2 (by omega)
        have hl : lt (allR c (o (k - 1))) (allR c i) := by
          refine lt_of_not (fun q => hq ⟨by omega, q⟩) ?_
          show ((o (k - 1) : Nat) : Int) < (i : Int)
          omega
        by_cases e : a = k - 1
        · rw [e]; exact hl
        · exact lt_trans (h4.good h2 (by omega)) gk gi (h4.so a (k - 1) (by omega) (by omega)) hl
      refine run_to hpin [0, 30] rfl rfl (by
        simp only [ren_ck, ren_ir, conj, Int.toNat_natCast]
        repeat' apply And.intro
        all_goals first | rfl | trivial | exact fun _ _ _ _ => Less.rfl | exact fun i' k' hi hk => Less.of (ins_row o k i m _ i' k' k1 hi hk).symm | exact fun h => h | exact Nat.le_refl _ | omega) (ih (i + 1, m + 1, ins o k i) ⟨by show i + 1 ≤ n; omega, hv, by show m + 1 ≤ i + 1; omega, h4.push hv hs k1 hbef k2⟩ (by show n - (i + 1) < n - i; omega))
  · have hin : i = n := by simp at h; omega
    subst hin
    refine goN hB s10_ok rfl rfl (by simp [conj]) ?_
    exact run_retC hpin (some (m, o)) ⟨h2, h4⟩ [0, 1] rfl rfl (by simp [conj]) rfl (by simp [conj, ren_ir, ren_ck, less_rfl])
end Sx
