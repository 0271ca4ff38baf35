/- The reference's New, Add, Remove. Conditions: as each theorem says. -/
import Derived.Test.YtkoeikjcnancdaaAl
set_option linter.unusedSimpArgs false
set_option linter.unusedVariables false
namespace Sx
open Go Go.Proofs
set_option maxRecDepth 100000
def insQ (q c : Int) : Ld → Ld
  | [] => [(q, c)]
  | p :: r => if q < p.1 then (q, c) :: p :: r else p :: insQ q c r
def restI (q c : Int) (done : Bool) (r : Ld) : Ld := bif done then r else insQ q c r
theorem insQ_length (q c : Int) : ∀ Q : Ld, (insQ q c Q).length = Q.length + 1
  | [] => rfl
  | p :: r => by simp only [insQ]; split <;> simp [insQ_length q c r]
theorem app_ldr (l : Ld) (p : Int × Int) (a b : SV) (ha : a = i64 p.1) (hb : b = i64 p.2) (i k : Nat) (hi : i < l.length + 1) (hk : k < 2) :
    ldr (l ++ [p]) i k = appF (ldr l) l.length (fun i j => [a, b][i * 2 + j]?.getD .und) i k := by
  subst ha hb
  unfold appF
  by_cases h : i < l.length
  · have hb : Nat.blt i l.length = true := by simpa [Nat.blt_eq] using h
    rw [hb, cond_true]
    simp [ldr, h, List.getElem?_append_left h]
  · have : i = l.length := by omega
    subst this
    have hb : Nat.blt l.length l.length = false := by
      cases hq : Nat.blt l.length l.length with
      | false => rfl
      | true => rw [Nat.blt_eq] at hq; omega
    rw [hb, cond_false]
    have : k = 0 ∨ k = 1 := by omega
    rcases this with rfl | rfl <;> simp [ldr]
theorem app_congr {f f' g : Nat → Nat → SV} {n : Nat} (h : ∀ i k, i < n → k < 2 → f i k = f' i k) (i k : Nat) (hk : k < 2) : appF f n g i k = appF f' n g i k := by
  unfold appF
  cases hb : Nat.blt i n with
  | true => rw [cond_true, cond_true]; exact h i k (by simpa [Nat.blt_eq] using hb) hk
  | false => rfl
theorem refadd_bad (s : ASt) (Q : Ld) (cap : Nat) (hlq : Q.length < 1000000) (hh : ∀ a, s.h a = hasQ Q a) (q c : Int) (he : addE s q c ≠ 0) :
    HC Try.prog 19 [refV s 0 Q.length, i64 q, i64 c] [] (qH Q cap) 1 (fun _ : Unit => True) (fun _ => ⟨.tup [refV s 0 Q.length, i64 (addE s q c)], [], 1⟩) := by
  refine hc_of_run Try.func19 rfl (fun B hB hpin => ?_)
  refine goK hB s2_ok rfl rfl (by simp [conj]) ?_
  refine run_cond rfl (fun h => ?_) (fun h => ?_)
  · have h : q < 0 ∨ 65535 < q ∨ c < 0 ∨ 3 < c := by simpa [or_assoc] using h
    refine goK hB s2_ok rfl rfl (by simp [conj]) ?_
    exact run_retC hpin () trivial [0] rfl rfl (by simp [conj]) rfl (by simp [conj, less_rfl, addE, h, ren_ldr])
  have h : ¬ (q < 0 ∨ 65535 < q ∨ c < 0 ∨ 3 < c) := by simp at h; omega
  refine goK hB s2_ok rfl rfl (by simp [conj]) ?_
  refine run_callC (at_hc s Q cap hlq q) named hB [0] rfl rfl rfl rfl (by simp [conj]) (by simp [conj, less_rfl, ren_ldr]) ?_
  rintro ⟨⟩ _
  refine ⟨show 1 ≤ 1 by omega, _, _, _, rfl, rfl, rfl, ?_⟩
  have hq : hasQ Q q = true := by
    rw [← hh]
    cases hb : s.h q with
    | true => rfl
    | false => simp [addE, h, hb] at he
  have hA : 0 ≤ atF Q q := by simp [atF, hq]
  refine goK hB s2_ok rfl rfl (by simp [conj]) ?_
  refine run_condT rfl (by simpa using hA) ?_
  refine goK hB s2_ok rfl rfl (by simp [conj]) ?_
  exact run_retC hpin () trivial [0] rfl rfl (by simp [conj]) rfl (by simp [conj, less_rfl, addE, h, hh, hq, ren_ldr])
theorem refadd_ok (s : ASt) (Q : Ld) (cap : Nat) (hlq : Q.length < 1000000) (hh : ∀ a, s.h a = hasQ Q a) (q c : Int) (he : addE s q c = 0) :
    HC Try.prog 19 [refV s 0 Q.length, i64 q, i64 c] [] (qH Q cap) 1 (fun _ : Unit => True) (fun _ => ⟨.tup [refV s 1 (Q.length + 1), i64 0], [(1, .row 0 (Q.length + 1) (Q.length + 1) 2 (ldr (insQ q c Q)) 63)], 2⟩) := by
  have h : ¬ (q < 0 ∨ 65535 < q ∨ c < 0 ∨ 3 < c) := fun h => by simp [addE, h] at he
  have hq : hasQ Q q = false := by
    rw [← hh]
    cases hb : s.h q with
    | false => rfl
    | true => simp [addE, h, hb] at he
  have hA := atF_none hq
  refine hc_of_run Try.func19 rfl (fun B hB hpin => ?_)
  refine goK hB s2_ok rfl rfl (by simp [conj]) ?_
  refine run_condF rfl (by simp; omega) ?_
  refine goK hB s2_ok rfl rfl (by simp [conj]) ?_
  refine run_callC (at_hc s Q cap hlq q) named hB [0] rfl rfl rfl rfl (by simp [conj]) (by simp [conj, less_rfl, ren_ldr]) ?_
  rintro ⟨⟩ _
  refine ⟨show 1 ≤ 1 by omega, _, _, _, rfl, rfl, rfl, ?_⟩
  refine goK hB s2_ok rfl rfl (by simp [conj]) ?_
  refine run_condF rfl (by simp [hA]) ?_
  refine goK hB s2_ok rfl rfl (by simp [conj]) ?_
  refine run_loop ?_
  refine run_inv (ι := Nat × Bool × Ld) hpin (fun x => x.1 ≤ Q.length ∧ x.2.2 ++ restI q c x.2.1 (Q.drop x.1) = insQ q c Q) (fun x => Q.length - x.1)
    (fun x => [(1, i64 q), (2, i64 c), (3, .ptr 1 0), (6, .ptr 2 0), (7, i64 0), (8, .sq 3 0 0 2 x.2.2.length .own), (9, .sb x.2.1), (10, i64 x.1)]) (fun _ => [])
    (fun x => [(1, .cells (refL s 0 Q.length .no) 49), (2, .cells [.ff, i64 0, i64 0, i64 0, i64 0, .nilsl, i64 0, i64 0, i64 0, i64 0, i64 0, i64 0, i64 0, i64 0] 49), (3, .row 0 x.2.2.length x.2.2.length 2 (ldr x.2.2) 63)]) 4 (0, false, []) ⟨Nat.zero_le _, rfl⟩
    [0, 1, 2, 3] rfl rfl (by simp [conj, less_rfl, ren_ldr]) ?_
  rintro ⟨i, dn, l⟩ ⟨k1, k2⟩ ih
  dsimp only at k1 k2
  have hlen : l.length ≤ Q.length + 1 := by
    have := congrArg List.length k2
    rw [insQ_length, List.length_append] at this; omega
  refine goK hB s2_ok rfl rfl (by simp [conj]) ?_
  refine run_cond rfl (fun h => ?_) (fun h => ?_)
  · have hi : i < Q.length := by simpa using h
    have eg : Q.getD i (0, 0) = Q[i] := by simp [hi]
    refine goK hB s2_ok rfl rfl (by simp [conj, hi]) ?_
    have hdr : Q.drop i = Q[i] :: Q.drop (i + 1) := List.drop_eq_getElem_cons hi
    rw [hdr] at k2
    refine run_cond rfl (fun hg0 => ?_) (fun hg0 => ?_)
    · have hg : dn = false ∧ q < Q[i].1 := by simpa [hi] using hg0
      obtain ⟨rfl, hg⟩ := hg
      have ih := ih (i + 1, true, l ++ [(q, c)] ++ [Q[i]]) ⟨by show i + 1 ≤ Q.length; omega, by
        rw [← k2]
        simp only [restI, cond_true, cond_false, insQ]
        rw [if_pos hg]; simp only [List.append_assoc, List.cons_append, List.nil_append]⟩ (by show Q.length - (i + 1) < Q.length - i; omega)
      refine goK hB s2_ok rfl rfl (by simp [conj, hi, Fits_i64]; omega) ?_
      refine run_back ?_
      refine run_to hpin [0, 1, 2, 7] rfl rfl ?_ ih
      clear ih
      simp [conj, less_rfl, ren_ldr]
      intro j k hj hk
      refine Less.of ?_
      rw [show l ++ [(q, c), Q[i]] = (l ++ [(q, c)]) ++ [Q[i]] by simp, app_ldr (l ++ [(q, c)]) Q[i] (i64 Q[i].1) (i64 Q[i].2) rfl rfl j k (by simp; omega) hk]
      simp only [List.length_append, List.length_cons, List.length_nil, Nat.zero_add, hi, List.getElem?_eq_getElem, Option.getD_some]
      exact app_congr (fun a b ha hb => app_ldr l (q, c) _ _ rfl rfl a b ha hb) j k hk
    · have hg : dn = true ∨ ¬ q < Q[i].1 := by
        cases dn with
        | true => exact .inl rfl
        | false => right; simpa [hi] using hg0
      have ih := ih (i + 1, dn, l ++ [Q[i]]) ⟨by show i + 1 ≤ Q.length; omega, by
        rw [← k2]
        simp only [List.append_assoc, List.cons_append, List.nil_append]
        rcases hg with rfl | hg
        · rfl
        · cases dn with
          | true => rfl
          | false =>
            simp only [restI, cond_false, insQ]
            rw [if_neg hg]⟩ (by show Q.length - (i + 1) < Q.length - i; omega)
      refine goK hB s2_ok rfl rfl (by simp [conj, hi, Fits_i64]; omega) ?_
      refine run_back ?_
      refine run_to hpin [0, 1, 2, 5] rfl rfl ?_ ih
      clear ih
      simp [conj, less_rfl, ren_ldr]
      intro j k hj hk
      refine Less.of ?_
      rw [app_ldr l Q[i] (i64 Q[i].1) (i64 Q[i].2) rfl rfl j k hj hk]
      simp only [Nat.zero_add, hi, List.getElem?_eq_getElem, Option.getD_some]
  · have hi : i = Q.length := by simp at h; omega
    subst hi
    clear ih
    rw [List.drop_length] at k2
    refine goK hB s2_ok rfl rfl (by simp [conj]) ?_
    cases dn with
    | true =>
      have hl : l = insQ q c Q := by simpa [restI] using k2
      have hn := insQ_length q c Q
      subst hl
      refine run_condF rfl rfl ?_
      refine goK hB s2_ok rfl rfl (by simp [conj]) ?_
      refine run_retC hpin () trivial [0, 3] rfl rfl (by simp [conj]) rfl ?_
      simp [conj, less_rfl, ren_ldr, hn]
    | false =>
      have hl : l ++ [(q, c)] = insQ q c Q := by simpa [restI, insQ] using k2
      have hn : l.length = Q.length := by
        have := congrArg List.length hl
        rw [insQ_length] at this; simpa using this
      refine run_condT rfl rfl ?_
      refine goK hB s2_ok rfl rfl (by simp [conj]; omega) ?_
      refine run_retC hpin () trivial [0, 5] rfl rfl (by simp [conj]) rfl ?_
      rw [← hl]
      simp [conj, less_rfl, ren_ldr, hn]
      intro j k hj hk
      rw [← hn] at hj
      rw [← hn, app_ldr l (q, c) (i64 q) (i64 c) rfl rfl j k hj hk]
      exact Less.rfl
end Sx
