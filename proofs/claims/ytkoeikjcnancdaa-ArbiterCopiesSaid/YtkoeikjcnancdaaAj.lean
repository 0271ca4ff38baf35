/- The reference: at, class, waits. Conditions: as each theorem says. -/
import Derived.Test.YtkoeikjcnancdaaAi
set_option linter.unusedSimpArgs false
set_option linter.unusedVariables false
namespace Sx
open Go Go.Proofs
set_option maxRecDepth 100000
abbrev refL (s : ASt) (r n : Nat) (ap : Ap) : List SV := [.sb s.w, i64 s.b, i64 s.hi, i64 s.me, i64 s.lo, .sq r 0 0 2 n ap, i64 s.l0, i64 s.l1, i64 s.l2, i64 s.l3, i64 s.c0, i64 s.c1, i64 s.c2, i64 s.c3]
abbrev refV (s : ASt) (r n : Nat) : SV := .agg (refL s r n .no)
abbrev qH (Q : Ld) (cap : Nat) : Hp := [(0, .row 0 Q.length cap 2 (ldr Q) 63)]
def AtR (Q : Ld) (a z : Int) : Prop := (z = -1 ∧ hasQ Q a = false) ∨ ∃ i, ∃ h : i < Q.length, z = i ∧ Q[i].1 = a
def atF (Q : Ld) (a : Int) : Int := if hasQ Q a then (Q.findIdx fun p => decide (p.1 = a)) else -1
theorem atF_spec (Q : Ld) (a : Int) : AtR Q a (atF Q a) := by
  unfold atF
  cases h : hasQ Q a with
  | false => exact .inl ⟨rfl, h⟩
  | true =>
    have hl : Q.findIdx (fun p => decide (p.1 = a)) < Q.length := by
      rw [List.findIdx_lt_length]
      obtain ⟨p, h1, h2⟩ := List.any_eq_true.1 h
      exact ⟨p, h1, h2⟩
    refine .inr ⟨_, hl, rfl, ?_⟩
    have := List.findIdx_getElem (w := hl)
    simpa using this
theorem atF_none {Q : Ld} {a : Int} (h : hasQ Q a = false) : atF Q a = -1 := by simp [atF, h]
theorem atF_at {Q : Ld} {a : Int} {i : Nat} (hi : i < Q.length) (h : Q[i].1 = a) (hn : hasQ (Q.take i) a = false) : atF Q a = i := by
  have hq : hasQ Q a = true := List.any_eq_true.2 ⟨Q[i], List.getElem_mem hi, by simpa using h⟩
  have : Q.findIdx (fun p => decide (p.1 = a)) = i := by
    rw [List.findIdx_eq hi]
    refine ⟨by simpa using h, fun j hj => ?_⟩
    have hm : Q[j] ∈ Q.take i := by
      rw [List.mem_iff_getElem]
      exact ⟨j, by simp; omega, by simp⟩
    cases hd : decide ((Q[j]'(Nat.lt_trans hj hi)).1 = a) with
    | false => rfl
    | true =>
      have : hasQ (Q.take i) a = true := List.any_eq_true.2 ⟨_, hm, hd⟩
      rw [hn] at this; cases this
  simp [atF, hq, this]
theorem at_hc (s : ASt) (Q : Ld) (cap : Nat) (hQ : Q.length < 1000000) (a : Int) :
    HC Try.prog 42 [refV s 0 Q.length, i64 a] [] (qH Q cap) 1 (fun _ : Unit => True) (fun _ => ⟨i64 (atF Q a), [], 1⟩) := by
  refine hc_of_run Try.func42 rfl (fun B hB hpin => ?_)
  refine goK hB s2_ok rfl rfl (by simp [conj]) ?_
  refine run_loop ?_
  refine run_inv (ι := Nat) hpin (fun i => i ≤ Q.length ∧ hasQ (Q.take i) a = false) (fun i => Q.length - i)
    (fun i => [(1, i64 a), (2, .ptr 1 0), (5, i64 i)]) (fun _ => []) (fun _ => [(1, .cells (refL s 0 Q.length .no) 49)]) 2 0 ⟨Nat.zero_le _, rfl⟩
    [0, 1] rfl rfl (by simp [conj, less_rfl, ren_ldr]) ?_
  rintro i ⟨h1, h2⟩ ih
  refine goK hB s2_ok rfl rfl (by simp [conj]) ?_
  refine run_cond rfl (fun h => ?_) (fun h => ?_)
  · have hi : i < Q.length := by simpa using h
    have ih := ih (i + 1)
    have htk : Q.take (i + 1) = Q.take i ++ [Q[i]] := List.take_succ_eq_append_getElem hi
    have eg : List.getD Q (0 + (i : Int).toNat) (0, 0) = Q[i] := by simp [hi]
    refine goK hB s2_ok rfl rfl (by simp [conj, hi]) ?_
    refine run_cond rfl (fun hq => ?_) (fun hq => ?_)
    · rw [eg] at hq
      refine goK hB s2_ok rfl rfl (by simp [conj]) ?_
      exact run_retC hpin () trivial [0] rfl rfl (by simp [conj]) rfl (by simp [conj, less_rfl, ren_ldr, atF_at hi (by simpa using hq) h2])
    · rw [eg] at hq
      refine goK hB s2_ok rfl rfl (by simp [conj, Fits_i64]; omega) ?_
      refine run_back ?_
      refine run_to hpin [0, 1] rfl rfl (by simp [conj, less_rfl, ren_ldr]) (ih ⟨by omega, by
        rw [htk, hasQ_snoc, h2]
        simp [ieq]; intro e; subst e; simp at hq⟩ (by omega))
  · have hi : i = Q.length := by simp at h; omega
    subst hi
    rw [List.take_length] at h2
    refine goK hB s2_ok rfl rfl (by simp [conj]) ?_
    exact run_retC hpin () trivial [0] rfl rfl (by simp [conj]) rfl (by simp [conj, less_rfl, ren_ldr, atF_none h2])
/-- The same over no queue: no block need be at hand. -/
theorem at0_hc (s : ASt) (a : Int) : HC Try.prog 42 [refV s 0 0, i64 a] [] [] 0 (fun _ : Unit => True) (fun _ => ⟨i64 (-1), [], 0⟩) := by
  refine hc_of_run Try.func42 rfl (fun B hB hpin => ?_)
  refine goK hB s2_ok rfl rfl (by simp [conj]) ?_
  refine run_loop ?_
  refine goK hB s2_ok rfl rfl (by simp [conj]) ?_
  refine run_condF rfl (by decide) ?_
  refine goK hB s2_ok rfl rfl (by simp [conj]) ?_
  exact run_retC hpin () trivial [] rfl rfl (by simp [conj]) rfl (by simp [conj])
def clsQ (s : ASt) (p : Int × Int) : Int := bif s.w then p.2 else 0
theorem rclass_hc (s : ASt) (Q : Ld) (cap : Nat) (i : Nat) (hi : i < Q.length) :
    HC Try.prog 56 [refV s 0 Q.length, i64 i] [] (qH Q cap) 1 (fun _ : Unit => True) (fun _ => ⟨i64 (clsQ s Q[i]), [], 1⟩) := by
  have eg : List.getD Q (0 + (i : Int).toNat) (0, 0) = Q[i] := by simp [hi]
  refine hc_of_run Try.func56 rfl (fun B hB hpin => ?_)
  refine goK hB s2_ok rfl rfl (by simp [conj]) ?_
  refine run_cond rfl (fun h => ?_) (fun h => ?_)
  · have h : s.w = false := by simpa using h
    refine goK hB s2_ok rfl rfl (by simp [conj]) ?_
    exact run_retC hpin () trivial [0] rfl rfl (by simp [conj]) rfl (by simp [conj, less_rfl, clsQ, h, ren_ldr])
  · have h : s.w = true := by simpa using h
    refine goK hB s2_ok rfl rfl (by simp [conj, hi]) ?_
    exact run_retC hpin () trivial [0] rfl rfl (by simp [conj]) rfl (by simp [conj, less_rfl, clsQ, h, hi, ren_ldr])
def waitsQ (s : ASt) (Q : Ld) (N : Nat → Int) (c : Int) (m : Nat) : Bool := (List.range m).any fun i => decide (0 < N i) && decide (clsQ s (Q.getD i (0, 0)) = c)
theorem waitsQ_succ (s : ASt) (Q : Ld) (N : Nat → Int) (c : Int) (m : Nat) : waitsQ s Q N c (m + 1) = (waitsQ s Q N c m || (decide (0 < N m) && decide (clsQ s (Q.getD m (0, 0)) = c))) := by
  unfold waitsQ; rw [List.range_succ, List.any_append]; simp
theorem waitsQ_hit {s : ASt} {Q : Ld} {N : Nat → Int} {c : Int} {i m : Nat} (hi : i < m) (h : (decide (0 < N i) && decide (clsQ s (Q.getD i (0, 0)) = c)) = true) : waitsQ s Q N c m = true :=
  List.any_eq_true.2 ⟨i, List.mem_range.2 hi, h⟩
theorem rwaits_hc (s : ASt) (Q : Ld) (cap capN : Nat) (hQ : Q.length < 1000000) (N : Nat → Int) (c : Int) :
    HC Try.prog 55 [refV s 0 Q.length, .sq 1 0 0 1 Q.length .no, i64 c] [] [(0, .row 0 Q.length cap 2 (ldr Q) 63), (1, .row 0 Q.length capN 1 (nr .i64 N) 3)] 2 (fun _ : Unit => True) (fun _ => ⟨.sb (waitsQ s Q N c Q.length), [], 2⟩) := by
  refine hc_of_run Try.func55 rfl (fun B hB hpin => ?_)
  refine goK hB s2_ok rfl rfl (by simp [conj]) ?_
  refine run_loop ?_
  refine run_inv (ι := Nat) hpin (fun i => i ≤ Q.length ∧ waitsQ s Q N c i = false) (fun i => Q.length - i)
    (fun i => [(1, .sq 1 0 0 1 Q.length .no), (2, i64 c), (3, .ptr 2 0), (7, i64 i)]) (fun _ => []) (fun _ => [(2, .cells (refL s 0 Q.length .no) 49)]) 3 0 ⟨Nat.zero_le _, rfl⟩
    [0, 1, 2] rfl rfl (by simp [conj, less_rfl, ren_ldr, ren_nr]) ?_
  rintro i ⟨h1, h2⟩ ih
  refine goK hB s2_ok rfl rfl (by simp [conj]) ?_
  refine run_cond rfl (fun h => ?_) (fun h => ?_)
  · have hi : i < Q.length := by simpa using h
    have ih := ih (i + 1)
    refine goK hB s2_ok rfl rfl (by simp [conj, hi]) ?_
    have eg : Q.getD i (0, 0) = Q[i] := by simp [hi]
    have hs := waitsQ_succ s Q N c i
    rw [h2, eg, Bool.false_or] at hs
    refine run_split 20 rfl (fun hn => ?_) (fun hn => ?_)
    · have hn : 0 < N i := by simpa using hn
      refine run_callC (rclass_hc s Q cap i hi) named hB [0] rfl rfl rfl rfl (by simp [conj, hn]) (by simp [conj, less_rfl, ren_ldr]) ?_
      rintro ⟨⟩ _
      refine ⟨show 1 ≤ 1 by omega, _, _, _, rfl, rfl, rfl, ?_⟩
      refine goK hB s2_ok rfl rfl (by simp [conj, hn]) ?_
      refine run_cond rfl (fun hc => ?_) (fun hc => ?_)
      · have hc : clsQ s Q[i] = c := by simpa using hc
        refine goK hB s2_ok rfl rfl (by simp [conj]) ?_
        exact run_retC hpin () trivial [0, 1] rfl rfl (by simp [conj]) rfl (by
          simp [conj, less_rfl, ren_ldr, ren_nr]
          exact waitsQ_hit hi (by rw [eg]; simp [hn, hc]))
      · have hc : ¬ clsQ s Q[i] = c := by simpa using hc
        refine goK hB s2_ok rfl rfl (by simp [conj, Fits_i64]; omega) ?_
        refine run_back ?_
        exact run_to hpin [0, 1, 2] rfl rfl (by simp [conj, less_rfl, ren_ldr, ren_nr]) (ih ⟨by omega, by rw [hs]; simp [hc]⟩ (by omega))
    · have hn : ¬ 0 < N i := by simpa using hn
      refine goK hB s2_ok rfl rfl (by simp [conj, Fits_i64]; omega) ?_
      refine run_back ?_
      exact run_to hpin [0, 1, 2] rfl rfl (by simp [conj, less_rfl, ren_ldr, ren_nr]) (ih ⟨by omega, by rw [hs]; simp [hn]⟩ (by omega))
  · have hi : i = Q.length := by simp at h; omega
    subst hi
    refine goK hB s2_ok rfl rfl (by simp [conj]) ?_
    exact run_retC hpin () trivial [0, 1] rfl rfl (by simp [conj]) rfl (by simp [conj, less_rfl, ren_ldr, ren_nr, h2])
end Sx
