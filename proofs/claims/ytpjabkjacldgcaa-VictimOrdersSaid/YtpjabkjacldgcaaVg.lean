/- The useful ones of a row, in their order. Conditions: as each theorem says. -/
import Derived.Test.YtpjabkjacldgcaaVf
namespace Sx
open Go Go.Proofs
/-- e's first m are the useful ones of d's first n, in their order. -/
def Filt (n : Nat) (d : Nat → Rk) (m : Nat) (e : Nat → Rk) : Prop := ∃ φ : Nat → Nat, (∀ i j, i < j → j < m → φ i < φ j) ∧ (∀ i, i < m → φ i < n ∧ e i = d (φ i) ∧ (e i).c.use = true) ∧ ∀ k, k < n → (d k).c.use = true → ∃ i, i < m ∧ φ i = k
theorem Filt.nil (d e : Nat → Rk) : Filt 0 d 0 e := ⟨id, fun _ _ _ h => by omega, fun _ h => by omega, fun _ h => by omega⟩
theorem Filt.skip {n m : Nat} {d e : Nat → Rk} (h : Filt n d m e) (hu : (d n).c.use = false) : Filt (n + 1) d m e := by
  obtain ⟨φ, h1, h2, h3⟩ := h
  refine ⟨φ, h1, fun i hi => ⟨by have := (h2 i hi).1; omega, (h2 i hi).2⟩, fun k hk hk2 => ?_⟩
  by_cases e : k = n
  · subst e; rw [hu] at hk2; cases hk2
  · exact h3 k (by omega) hk2
theorem Filt.le {n m : Nat} {d e : Nat → Rk} (h : Filt n d m e) : m ≤ n := by
  obtain ⟨φ, h1, h2, h3⟩ := h
  have : ∀ i, i < m → i ≤ φ i := by
    intro i
    induction i with
    | zero => intro _; omega
    | succ i ih => intro hi; have := ih (by omega); have := h1 i (i + 1) (by omega) hi; omega
  rcases Nat.eq_zero_or_pos m with h | h
  · omega
  · have h4 := this (m - 1) (by omega); have h5 := (h2 (m - 1) (by omega)).1; omega
theorem Filt.push {n m : Nat} {d e : Nat → Rk} (h : Filt n d m e) (hu : (d n).c.use = true) : Filt (n + 1) d (m + 1) (fun j => if j = m then d n else e j) := by
  obtain ⟨φ, h1, h2, h3⟩ := h
  refine ⟨fun j => if j = m then n else φ j, fun i j hij hj => ?_, fun i hi => ?_, fun k hk hk2 => ?_⟩
  · have hi : i ≠ m := by omega
    simp only [hi, if_false]
    by_cases e : j = m
    · simp only [e, if_true]; exact (h2 i (by omega)).1
    · simp only [e, if_false]; exact h1 i j hij (by omega)
  · by_cases e : i = m
    · simp only [e, if_true]; exact ⟨by omega, trivial, hu⟩
    · simp only [e, if_false]; have := h2 i (by omega); exact ⟨by omega, this.2⟩
  · by_cases e : k = n
    · exact ⟨m, by omega, by simp [e]⟩
    · obtain ⟨i, hi, hi2⟩ := h3 k (by omega) hk2
      exact ⟨i, by omega, by show (if i = m then n else φ i) = k; rw [if_neg (by omega)]; exact hi2⟩
theorem app0_rk (x : Rk) (f : Nat → Nat → SV) (e : Nat → Rk) (i k : Nat) (hi : i < 0 + 1) (hk : k < 5) :
    appF f 0 (fun i k => List.getD [.int .i64 x.c.b, .int .i64 x.c.v, .int .i64 x.c.p, .int .i64 x.c.a, .int .i64 x.at_] ((0 + i) * 5 + k) .und) i k = rk (fun j => if j = 0 then x else e j) i k := by
  have : i = 0 := by omega
  subst this
  match k, hk with
  | 0, _ => rfl
  | 1, _ => rfl
  | 2, _ => rfl
  | 3, _ => rfl
  | 4, _ => rfl
theorem app_rk (x : Rk) (e : Nat → Rk) (m i k : Nat) (hi : i < m + 1) (hk : k < 5) :
    appF (rk e) m (fun i k => List.getD [.int .i64 x.c.b, .int .i64 x.c.v, .int .i64 x.c.p, .int .i64 x.c.a, .int .i64 x.at_] ((0 + i) * 5 + k) .und) i k = rk (fun j => if j = m then x else e j) i k := by
  unfold appF
  by_cases h : i < m
  · have hb : Nat.blt i m = true := by simpa [Nat.blt_eq] using h
    rw [hb, cond_true]
    unfold rk
    simp only [show i ≠ m by omega, if_false]
  · have : i = m := by omega
    subst this
    have hb : Nat.blt i i = false := by
      cases hh : Nat.blt i i with
      | false => rfl
      | true => exact absurd (by simp [Nat.blt_eq] at hh) h
    rw [hb, cond_false, Nat.sub_self]
    unfold rk
    simp only [if_true]
    match k, hk with
    | 0, _ => rfl
    | 1, _ => rfl
    | 2, _ => rfl
    | 3, _ => rfl
    | 4, _ => rfl
abbrev kpOut (z : Nat × (Nat → Rk)) : Out := ⟨.sq 1 0 0 5 z.1 .own, [(1, .row 0 z.1 z.1 5 (rk z.2) 53)], 2⟩
theorem kept_hc (n : Nat) (d : Nat → Rk) (hn : n < 1000000) :
    HC Try.prog 28 [.sq 0 0 0 5 n .no, .clo (.func 29) [] []] [] (rowH n n d) 1 (fun z : Nat × (Nat → Rk) => Filt n d z.1 z.2) kpOut := by
  refine hc_of_run Try.func28 rfl (fun B hB hpin => ?_)
  refine goN hB s7_ok rfl rfl (by simp [conj]) ?_
  refine run_loop ?_
  refine run_inv (ι := Nat × Nat × (Nat → Rk)) hpin (fun x => x.1 ≤ n ∧ Filt x.1 d x.2.1 x.2.2) (fun x => n - x.1)
    (fun x => [(0, .sq 0 0 0 5 n .no), (1, .clo (.func 29) [] []), (4, .sq 1 0 0 5 x.2.1 .own), (7, .sq 0 0 0 5 n .no), (8, .int .i64 (n : Int)), (9, .int .i64 (x.1 : Int))]) (fun _ => []) (fun x => [(1, .row 0 x.2.1 x.2.1 5 (rk x.2.2) 53)]) 2 (0, 0, d)
    ⟨by simp, Filt.nil d d⟩ [0, 1] rfl rfl (by simp [conj, ren_rk, less_rfl]) ?_
  rintro ⟨i, m, e⟩ ⟨h1, h2⟩ ih
  have h1 : i ≤ n := h1
  have h2 : Filt i d m e := h2
  have hm := h2.le
  have ei : 0 + (i : Int).toNat = i := by omega
  refine goN hB s7_ok rfl rfl (by simp [conj]) ?_
  refine run_cond rfl (fun h => ?_) (fun h => ?_)
  · have hi : i < n := by simpa using h
    refine goN hB s7_ok rfl rfl (by simp only [conj, Fits_i64, and_true, true_and, List.length_cons, List.length_nil]; omega) ?_
    refine run_cond rfl (fun hu => ?_) (fun hu => ?_)
    · have hu : (d i).c.use = true := by simp only [ei] at hu; exact hu
      refine goN hB s7_ok rfl rfl (by simp only [conj, Fits_i64, and_true, true_and, List.length_cons, List.length_nil]; omega) ?_
      refine run_back ?_
      refine run_to hpin [0, 4] rfl rfl (by
        simp only [ei, ren_rk, conj, List.cons_append, List.nil_append]
        repeat' apply And.intro
        all_goals first | rfl | trivial | exact fun _ _ _ _ => Less.rfl | exact fun i' k hi hk => Less.of (app_rk (d i) e m i' k hi hk).symm | exact fun h => h | exact Nat.le_refl _ | omega) (ih (i + 1, m + 1, fun j => if j = m then d i else e j) ⟨by show i + 1 ≤ n; omega, h2.push hu⟩ (by show n - (i + 1) < n - i; omega))
    · have hu : (d i).c.use = false := by simp only [ei] at hu; exact hu
      refine goN hB s7_ok rfl rfl (by simp only [conj, Fits_i64, and_true, true_and, List.length_cons, List.length_nil]; omega) ?_
      refine run_back ?_
      refine run_to hpin [0, 1] rfl rfl (by simp [conj, ren_rk, less_rfl]) (ih (i + 1, m, e) ⟨by show i + 1 ≤ n; omega, h2.skip hu⟩ (by show n - (i + 1) < n - i; omega))
  · have : i = n := by simp at h; omega
    subst this
    refine goN hB s7_ok rfl rfl (by simp [conj]) ?_
    exact run_retC hpin (m, e) h2 [0, 1] rfl rfl (by simp [conj]) rfl (by simp [conj, ren_rk, less_rfl])
end Sx
