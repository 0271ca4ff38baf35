/- The stable sort of a row. Conditions: as each theorem says. -/
import Derived.Test.YtpjabkjacldgcaaVn
namespace Sx
open Go Go.Proofs
abbrev maxN : Nat := 39
theorem SortedOn.merge {n : Nat} {d d1 d2 : Nat → Rk} (hg : ∀ i, i < n → good (d i)) (hat : ∀ i j, i < j → j < n → (d i).at_ < (d j).at_) (hn : 20 ≤ n) (p1 : PmS 0 20 d d1) (s1 : SortedOn 0 20 d1) (p2 : PmS 20 n d1 d2) (s2 : SortedOn 20 n d2) : Mrg 0 20 n d2 := by
  have hp : PmS 0 n d d2 := (p1.mono (Nat.le_refl _) hn).trans (p2.mono (by omega) (Nat.le_refl _))
  refine ⟨by omega, hn, fun i j h1 h2 h3 => ?_, s2, fun i j h1 h2 h3 h4 => ?_, hp.all (fun i _ h => hg i h)⟩
  · rw [p2.out (i := i) (by omega), p2.out (i := j) (by omega)]; exact s1 i j h1 h2 h3
  · rw [p2.out (i := i) (by omega)]
    obtain ⟨i', q1, q2, q3⟩ := p1.at (i := i) ⟨h1, h2⟩
    obtain ⟨j', r1, r2, r3⟩ := p2.at (i := j) ⟨h3, h4⟩
    rw [q3, r3, p1.out (i := j') (by omega)]
    exact hat i' j' (by omega) r2
theorem stable_hc (n cap : Nat) (d : Nat → Rk) (hn : n ≤ maxN) (hg : ∀ i, i < n → good (d i)) (hat : ∀ i j, i < j → j < n → (d i).at_ < (d j).at_) :
    HC Try.prog 33 [.sq 0 0 0 5 n .no, .int .i64 n, by27] (rowH n cap d) [] 1 (fun d' => PmS 0 n d d' ∧ SortedOn 0 n d') (fun d' => ⟨.tup [], rowH n cap d', 1⟩) := by
  have hn : n ≤ 39 := hn
  refine hc_of_run Try.func33 rfl (fun B hB hpin => ?_)
  refine goN hB s7_ok rfl rfl (by simp [conj]) ?_
  refine run_loop ?_
  refine goN hB s7_ok rfl rfl (by simp [conj]) ?_
  refine run_cond rfl (fun h => ?_) (fun h => ?_)
  · have hn2 : 20 ≤ n := by simp at h; omega
    refine goN hB s7_ok rfl rfl (by simp [conj]) ?_
    refine run_callC (ins_hc n cap 0 20 d (by omega) (by omega) (by omega) hg (fun i j h1 h2 h3 => hat i j h2 (by omega))) named hB [0] rfl rfl rfl rfl (by simp [conj]) (by simp [conj, ren_rk, less_rfl]) ?_
    rintro d1 ⟨p1, s1⟩
    refine ⟨Nat.le_refl _, _, _, _, rfl, rfl, rfl, ?_⟩
    refine run_heap (hp' := rowH n cap d1) (by simp only [renR_rk]) ?_
    refine goN hB s7_ok rfl rfl (by simp [conj, Fits_i64]) ?_
    refine run_back ?_
    refine goN hB s7_ok rfl rfl (by simp [conj, Fits_i64]) ?_
    refine run_cond rfl (fun h => ?_) (fun h => ?_)
    · simp at h; omega
    refine goN hB s7_ok rfl rfl (by simp [conj, Fits_i64]) ?_
    have hg1 : ∀ i, i < n → good (d1 i) := fun i hi => by
      by_cases e : i < 20
      · exact p1.all (fun k _ hk => hg k (by omega)) i (Nat.zero_le _) e
      · rw [p1.out (by omega)]; exact hg i hi
    refine run_callC (ins_hc n cap 20 n d1 hn2 (by omega) (by omega) hg1 (fun i j h1 h2 h3 => by rw [p1.out (i := i) (by omega), p1.out (i := j) (by omega)]; exact hat i j h2 h3)) named hB [0] rfl rfl rfl rfl (by simp [conj]) (by simp [conj, ren_rk, less_rfl]) ?_
    rintro d2 ⟨p2, s2⟩
    refine ⟨Nat.le_refl _, _, _, _, rfl, rfl, rfl, ?_⟩
    refine run_heap (hp' := rowH n cap d2) (by simp only [renR_rk]) ?_
    have hM := SortedOn.merge hg hat hn2 p1 s1 p2 s2
    refine goN hB s7_ok rfl rfl (by simp [conj, Fits_i64]) ?_
    refine run_loop ?_
    refine goN hB s7_ok rfl rfl (by simp [conj, Fits_i64]) ?_
    refine run_cond rfl (fun h => ?_) (fun h => ?_)
    · have hn3 : 20 < n := by simp at h; omega
      refine goN hB s7_ok rfl rfl (by simp [conj, Fits_i64]) ?_
      refine run_loop ?_
      refine goN hB s7_ok rfl rfl (by simp [conj, Fits_i64]) ?_
      refine run_cond rfl (fun h => ?_) (fun h => ?_)
      · simp at h; omega
      refine goN hB s7_ok rfl rfl (by simp [conj, Fits_i64]) ?_
      refine run_cond rfl (fun h => ?_) (fun h => ?_)
      · refine goN hB s7_ok rfl rfl (by simp [conj, Fits_i64]) ?_
        refine run_callC (sym_hc n cap (by omega) n 0 20 n d2 (by omega) (by omega) hn3 (by omega) hM) named hB [0] rfl rfl rfl rfl (by simp [conj]) (by simp [conj, ren_rk, less_rfl]) ?_
        rintro d3 ⟨p3, s3⟩
        refine ⟨Nat.le_refl _, _, _, _, rfl, rfl, rfl, ?_⟩
        refine run_heap (hp' := rowH n cap d3) (by simp only [renR_rk]) ?_
        refine goN hB s7_ok rfl rfl (by simp [conj, Fits_i64]) ?_
        refine run_back ?_
        refine goN hB s7_ok rfl rfl (by simp [conj, Fits_i64]) ?_
        refine run_cond rfl (fun h => ?_) (fun h => ?_)
        · simp at h; omega
        refine goN hB s7_ok rfl rfl (by simp [conj, Fits_i64]) ?_
        exact run_endC hpin d3 ⟨((p1.mono (Nat.le_refl _) hn2).trans (p2.mono (by omega) (Nat.le_refl _))).trans p3, s3⟩ [0] rfl rfl (by simp [conj]) rfl (by simp [conj, ren_rk, less_rfl])
      · simp at h; omega
    · have hn3 : n = 20 := by simp at h; omega
      subst hn3
      refine goN hB s7_ok rfl rfl (by simp [conj, Fits_i64]) ?_
      exact run_endC hpin d2 ⟨(p1.mono (Nat.le_refl _) hn2).trans (p2.mono (by omega) (Nat.le_refl _)), hM.bare (by omega)⟩ [0] rfl rfl (by simp [conj]) rfl (by simp [conj, ren_rk, less_rfl])
  · have hn : n < 20 := by simp at h; omega
    refine goN hB s7_ok rfl rfl (by simp [conj]) ?_
    refine run_callC (ins_hc n cap 0 n d (by omega) (by omega) (by omega) hg (fun i j h1 h2 h3 => hat i j h2 h3)) named hB [0] rfl rfl rfl rfl (by simp [conj]) (by simp [conj, ren_rk, less_rfl]) ?_
    rintro d' ⟨p1, p2⟩
    refine ⟨Nat.le_refl _, _, _, _, rfl, rfl, rfl, ?_⟩
    refine run_heap (hp' := rowH n cap d') (by simp only [renR_rk]) ?_
    refine goN hB s7_ok rfl rfl (by simp [conj]) ?_
    refine run_loop ?_
    refine goN hB s7_ok rfl rfl (by simp [conj]) ?_
    refine run_cond rfl (fun h => ?_) (fun h => ?_)
    · simp at h; omega
    refine goN hB s7_ok rfl rfl (by simp [conj]) ?_
    exact run_endC hpin d' ⟨p1, p2⟩ [0] rfl rfl (by simp [conj]) rfl (by simp [conj, ren_rk, less_rfl])
theorem sort_hc (n cap : Nat) (d : Nat → Rk) (hn : n ≤ maxN) (hg : ∀ i, i < n → good (d i)) (hat : ∀ i j, i < j → j < n → (d i).at_ < (d j).at_) :
    HC Try.prog 30 [.sq 0 0 0 5 n .no, by27] (rowH n cap d) [] 1 (fun d' => PmS 0 n d d' ∧ SortedOn 0 n d') (fun d' => ⟨.tup [], rowH n cap d', 1⟩) := by
  refine hc_of_run Try.func30 rfl (fun B hB hpin => ?_)
  refine goN hB s7_ok rfl rfl (by simp [conj]) ?_
  refine run_callC (stable_hc n cap d hn hg hat) named hB [0] rfl rfl rfl rfl (by simp [conj]) (by simp [conj, ren_rk, less_rfl]) ?_
  rintro d' ⟨p1, p2⟩
  refine ⟨Nat.le_refl _, _, _, _, rfl, rfl, rfl, ?_⟩
  refine run_heap (hp' := rowH n cap d') (by simp only [renR_rk]) ?_
  refine goN hB s7_ok rfl rfl (by simp [conj]) ?_
  exact run_endC hpin d' ⟨p1, p2⟩ [0] rfl rfl (by simp [conj]) rfl (by simp [conj, ren_rk, less_rfl])
end Sx
