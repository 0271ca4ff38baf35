/- VictimFew: its call gives true. Conditions: none. -/
import Derived.Test.YtpjabkjacldgcaaVs
namespace Sx
open Go Go.Proofs
/-- A row of integers. -/
def nr (g : Nat → Int) : Nat → Nat → SV := fun i k =>
  match k with
  | 0 => .int .i64 (g i)
  | _ => .und
theorem ren_nr (nx : Nat) (sg : List Nat) (g : Nat → Int) (i k : Nat) : ren nx sg (nr g i k) = nr g i k := by
  unfold nr; split <;> simp only [ren, renF, id]
abbrev numH (off n : Nat) (g : Nat → Int) : Hp := [(0, .row off n n 1 (nr g) anyTy)]
def fewC (g : Nat → Int) (P A : Int) : Nat → Cd := fun j => ⟨j, g j, P, A⟩
/-- The least of P and the first numbers. -/
def lst (g : Nat → Int) (P : Int) : Nat → Int
  | 0 => P
  | i + 1 => min (lst g P i) (g i)
theorem lst_le (g : Nat → Int) (P : Int) : ∀ i j, j < i → lst g P i ≤ g j
  | 0, _, h => by omega
  | i + 1, j, h => by
    unfold lst
    by_cases e : j = i
    · subst e; omega
    · have := lst_le g P i j (by omega); omega
theorem lst_is (g : Nat → Int) (P : Int) : ∀ i, lst g P i = P ∨ ∃ j, j < i ∧ g j = lst g P i
  | 0 => .inl rfl
  | i + 1 => by
    unfold lst
    rcases Int.le_total (lst g P i) (g i) with h | h
    · rw [Int.min_eq_left h]
      rcases lst_is g P i with h1 | ⟨j, h1, h2⟩
      · exact .inl h1
      · exact .inr ⟨j, by omega, h2⟩
    · rw [Int.min_eq_right h]
      exact .inr ⟨i, by omega, rfl⟩
theorem lst_leP (g : Nat → Int) (P : Int) : ∀ i, lst g P i ≤ P
  | 0 => Int.le_refl _
  | i + 1 => by unfold lst; have := lst_leP g P i; omega
theorem app_ck (x : Cd) (e : Nat → Cd) (he : ∀ m, e m = x → True) (m i k : Nat) (hx : e m = x) (hi : i < m + 1) (hk : k < 4) :
    appF (ck e) m (fun i k => List.getD [.int .i64 x.b, .int .i64 x.v, .int .i64 x.p, .int .i64 x.a] ((0 + i) * 4 + k) .und) i k = ck e i k := by
  unfold appF
  by_cases h : i < m
  · have hb : Nat.blt i m = true := by simpa [Nat.blt_eq] using h
    rw [hb, cond_true]
  · have : i = m := by omega
    subst this
    have hb : Nat.blt i i = false := by
      cases hh : Nat.blt i i with
      | false => rfl
      | true => exact absurd (by simp [Nat.blt_eq] at hh) h
    rw [hb, cond_false, Nat.sub_self]
    unfold ck
    rw [hx]
    match k, hk with
    | 0, _ => rfl
    | 1, _ => rfl
    | 2, _ => rfl
    | 3, _ => rfl
theorem few_law (g : Nat → Int) (P A : Int) (n : Nat) (z : Int × Int) (hP : 1 ≤ P ∧ P ≤ 512) (hA : 0 ≤ A ∧ A ≤ 1099511627776) (hg : ∀ j, j < n → 0 ≤ g j ∧ g j ≤ P) (hz : choOk n (fewC g P A) z) :
    (lst g P n = P ∧ z = (0, 9)) ∨ (lst g P n < P ∧ ∃ k, k < n ∧ z = ((k : Int), 0) ∧ (g k = lst g P n ∨ (A = 0 ∧ 0 < lst g P n))) := by
  have hok : ∀ j, j < n → (fewC g P A j).ok = true := fun j hj => by
    have := hg j hj
    show rightB (g j) P A = true
    rw [rightB_iff]; omega
  have huse : ∀ j, (fewC g P A j).use = true ↔ g j < P := fun j => by
    show decide (g j < P) = true ↔ _
    simp
  rcases hz with ⟨⟨i, i1, i2⟩, _⟩ | ⟨_, hu, rfl⟩ | ⟨_, k, k1, k2, k3, rfl⟩
  · rw [hok i i1] at i2; cases i2
  · refine .inl ⟨?_, rfl⟩
    rcases lst_is g P n with h | ⟨j, j1, j2⟩
    · exact h
    · have h1 := hu j j1
      have h2 : ¬ g j < P := fun q => by rw [(huse j).2 q] at h1; cases h1
      have := hg j j1
      omega
  · have hk := (huse k).1 k2
    have hl := lst_le g P n k k1
    refine .inr ⟨by omega, k, k1, rfl, ?_⟩
    by_cases e : g k = lst g P n
    · exact .inl e
    right
    obtain ⟨j, j1, j2⟩ : ∃ j, j < n ∧ g j = lst g P n := by
      rcases lst_is g P n with h | h
      · omega
      · exact h
    have hj := hg j j1
    have hgk := hg k k1
    have hne : j ≠ k := fun q => by rw [q] at j2; exact e j2
    have hlt := k3 j j1 ((huse j).2 (by omega)) hne
    have hle : SLt (fewC g P A k) (fewC g P A j) ∨ SEq (fewC g P A k) (fewC g P A j) := by
      rcases hlt with h | ⟨h, _⟩
      · rcases (cmpC_neg _ _).1 h with h | ⟨h, _⟩
        · exact .inl h
        · exact .inr h
      · exact .inr ((cmpC_zero _ _).1 h).1
    have dk : (fewC g P A k).D = 2 * g k := by
      show scD (g k) = _
      unfold scD; rw [if_neg (by omega)]
    have nk : (fewC g P A k).N = (P - g k) * A := by
      show scN (g k) P A = _
      unfold scN; rw [if_neg (by omega)]
    by_cases h0 : g j = 0
    · exfalso
      have dj : (fewC g P A j).D = 0 := by
        show scD (g j) = 0
        unfold scD; rw [if_pos h0]
      unfold SLt SEq at hle
      rw [dk, dj] at hle
      omega
    · have dj : (fewC g P A j).D = 2 * g j := by
        show scD (g j) = _
        unfold scD; rw [if_neg (by omega)]
      have nj : (fewC g P A j).N = (P - g j) * A := by
        show scN (g j) P A = _
        unfold scN; rw [if_neg (by omega)]
      have hmain : (P - g j) * A * (2 * g k) ≤ (P - g k) * A * (2 * g j) := by
        unfold SLt SEq at hle
        rw [dk, dj, nk, nj] at hle
        rcases hle with (h | h) | (h | h)
        · omega
        · exact Int.le_of_lt h.2.2
        · omega
        · exact Int.le_of_eq h.2.2
      refine ⟨?_, by omega⟩
      have e1 : (P - g j) * A * (2 * g k) - (P - g k) * A * (2 * g j) = 2 * (A * (P * (g k - g j))) := by
        simp only [Int.sub_mul, Int.mul_sub, Int.mul_assoc, Int.mul_comm, Int.mul_left_comm]
        omega
      have h2 : A * (P * (g k - g j)) ≤ 0 := by omega
      have h3 : 0 < P * (g k - g j) := Int.mul_pos (by omega) (by omega)
      by_cases hA0 : A = 0
      · exact hA0
      · have := Int.mul_pos (show 0 < A by omega) h3
        omega
set_option maxHeartbeats 1000000 in
theorem few_hc (off n : Nat) (g : Nat → Int) (P A : Int) :
    HC Try.prog 5 [.sq 0 off 0 1 n .no, .int .i64 P, .int .i64 A] [] (numH off n g) 1 (fun _ : Unit => True) ttOut := by
  refine hc_of_run Try.func5 rfl (fun B hB hpin => ?_)
  refine goN hB s10_ok rfl rfl (by simp [conj]) ?_
  refine run_cond rfl (fun h => ?_) (fun h => ?_)
  · refine goN hB s10_ok rfl rfl (by simp [conj]) ?_
    exact run_retC hpin () trivial [0] rfl rfl (by simp [conj]) rfl (by simp [conj, ren_nr, less_rfl])
  have hh : n ≤ 30 ∧ 1 ≤ P ∧ P ≤ 512 ∧ 0 ≤ A ∧ A ≤ 1099511627776 := by simp at h; omega
  obtain ⟨hn, hP1, hP2, hA1, hA2⟩ := hh
  refine goN hB s10_ok rfl rfl (by simp [conj]) ?_
  refine run_loop ?_
  refine run_inv (ι := Nat) hpin (fun x => x ≤ n ∧ (∀ k, k < x → 0 ≤ g k ∧ g k ≤ P)) (fun x => n - x)
    (fun x => [(0, .sq 0 off 0 1 n .no), (1, .int .i64 P), (2, .int .i64 A), (7, .int .i64 (lst g P x)), (8, .sq 1 0 0 4 x .own), (9, .int .i64 (x : Int))]) (fun _ => []) (fun x => [(1, .row 0 x x 4 (ck (fewC g P A)) 36)]) 2 0
    ⟨by simp, fun k h => by omega⟩ [0, 1] rfl rfl (by simp [conj, ren_nr, less_rfl, lst]) ?_
  rintro i ⟨h1, h2⟩ ih
  have ei : 0 + (i : Int).toNat = i := by omega
  refine goN hB s10_ok rfl rfl (by simp [conj]) ?_
  refine run_cond rfl (fun h => ?_) (fun h => ?_)
  · have hi : i < n := by simpa using h
    refine goN hB s10_ok rfl rfl (by simp [conj]; omega) ?_
    refine run_cond rfl (fun hu => ?_) (fun hu => ?_)
    · refine goN hB s10_ok rfl rfl (by simp [conj]) ?_
      exact run_retC hpin () trivial [0] rfl rfl (by simp [conj]) rfl (by simp [conj, ren_nr, less_rfl])
    · have hu : 0 ≤ g i ∧ g i ≤ P := by simp only [ei] at hu; simp at hu; omega
      refine goN hB s10_ok rfl rfl (by simp only [conj, Fits_i64, and_true, true_and, List.length_cons, List.length_nil]; omega) ?_
      refine run_back ?_
      refine run_to hpin [0, 3] rfl rfl (by
        simp only [ei, ren_nr, ren_ck, conj, List.cons_append, List.nil_append]
        repeat' apply And.intro
        all_goals first | rfl | trivial | exact fun _ _ _ _ => Less.rfl | exact fun i' k hi hk => Less.of (app_ck (fewC g P A i) (fewC g P A) (fun _ _ => trivial) i i' k rfl hi hk).symm | exact fun h => h | exact Nat.le_refl _ | omega) (ih (i + 1) ⟨by omega, fun k hk => by
          by_cases e : k = i
          · subst e; exact hu
          · exact h2 k (by omega)⟩ (by omega))
  · have hin : i = n := by simp at h; omega
    subst hin
    refine goN hB s10_ok rfl rfl (by simp [conj]) ?_
    refine run_callC (choose_hc 0 i (fewC g P A) (by show i ≤ 39; omega)) named hB [1] rfl rfl rfl rfl (by simp [conj]) (by simp [conj, ren_ck, less_rfl]) ?_
    intro z hz
    refine ⟨show 1 ≤ 1 by omega, _, _, _, rfl, rfl, rfl, ?_⟩
    refine goN hB s10_ok rfl rfl (by simp [conj]) ?_
    rcases few_law g P A i z ⟨hP1, hP2⟩ ⟨hA1, hA2⟩ h2 hz with ⟨hl, rfl⟩ | ⟨hl, k, k1, rfl, k2⟩
    · refine run_condT rfl (by simpa using hl) ?_
      refine goN hB s10_ok rfl rfl (by simp [conj]) ?_
      exact run_retC hpin () trivial [0] rfl rfl (by simp [conj]) rfl (by simp [conj, ren_nr, less_rfl])
    · refine run_condF rfl (by simp; omega) ?_
      refine goN hB s10_ok rfl rfl (by simp [conj]) ?_
      refine run_condF rfl (by simp; omega) ?_
      refine goN hB s10_ok rfl rfl (by simp [conj]; omega) ?_
      have ek : 0 + (k : Int).toNat = k := by omega
      exact run_retC hpin () trivial [0] rfl rfl (by simp [conj]) rfl (by simp [conj, ren_nr, less_rfl]; simpa using k2)
end Sx
