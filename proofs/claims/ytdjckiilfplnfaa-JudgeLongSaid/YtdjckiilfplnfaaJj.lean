/- Package judge: a part's step. Conditions: as each theorem says. -/
import Derived.Test.YtdjckiilfplnfaaJi
import Derived.Test.YtdjckiilfplnfaaEngX5
set_option linter.unusedSimpArgs false
set_option linter.unusedVariables false
namespace Sx
open Go Go.Proofs
set_option maxRecDepth 100000
set_option pp.deepTerms true
set_option pp.maxSteps 10000000
/-- What a part's blocks are after it. -/
def apF (T : PT) (v : Nat → Int) (i : Nat) : Nat → Int := fun k => if T.f.toNat ≤ k ∧ k < T.f.toNat + i then T.v (k - T.f.toNat) else v k
def apL (T : PT) (l : List Int) : List Int := (List.range 8).map (apF T (fun k => l.getD k 0) T.n)
/-- Whether it may stand: a read has these values. -/
def okA (T : PT) (l : List Int) : Bool := T.w || (List.range T.n).all fun i => decide (l.getD (T.f.toNat + i) 0 = T.v i)
theorem apF_succ (T : PT) (v : Nat → Int) (i : Nat) : apF T v (i + 1) = fun k => if k = T.f.toNat + i then T.v i else apF T v i k := by
  funext k
  unfold apF
  by_cases h : k = T.f.toNat + i
  · rw [if_pos h, if_pos ⟨by omega, by omega⟩, h, Nat.add_sub_cancel_left]
  · rw [if_neg h]
    by_cases h2 : T.f.toNat ≤ k ∧ k < T.f.toNat + i
    · rw [if_pos h2, if_pos ⟨h2.1, by omega⟩]
    · rw [if_neg h2, if_neg (fun q => h2 ⟨q.1, by omega⟩)]
theorem apF_zero (T : PT) (v : Nat → Int) : apF T v 0 = v := by
  funext k; unfold apF; rw [if_neg (by omega)]
theorem upd_less1 (g : Nat → Int) (j j' : Nat) (x : Int) (a : Nat) (hj : j' = j) : Less (urow (fun k => if k = j then x else g k) a 0) (updF (urow g) j' 0 (SV.int .i64 x).cells a 0) := by
  subst hj
  refine Less.of ?_
  unfold updF urow
  by_cases e : a = j'
  · subst e; simp [SV.cells]
  · simp [e]
set_option maxHeartbeats 4000000 in
theorem apply_hck {K : Kn} (T : PT) (pv : Value) (hpv : Froz K pv T.n 1 (urow T.v)) (h0 : 0 ≤ T.f) (h8 : T.f + T.n ≤ 8) (l : List Int) (hl : l.length = 8) :
    HCK Try.prog K 49 [.agg [.sb T.w, .sb T.d, .sb T.du, i64 T.b, i64 T.e, i64 T.f, .val pv], svV l] [] [] 0 (fun z : List Int × Bool => z.2 = okA T l ∧ z.1.length = 8 ∧ (okA T l = true → z.1 = apL T l)) (fun z => ⟨.tup [svV z.1, .sb z.2], [], 0⟩) := by
  match l, hl with
  | [a0, a1, a2, a3, a4, a5, a6, a7], _ =>
  refine hck_of_run Try.func49 rfl (fun B hB hK hpin => ?_)
  refine goT hB [] 400 rfl (by first | exact conj_nil | simp [conj]) ?_
  refine run_open hK 9 hpv (by decide) rfl (fun ov => ?_)
  refine goT hB [] 400 rfl (by first | exact conj_nil | simp [conj]) ?_
  refine run_loop ?_
  refine run_inv (ι := Nat) hpin (fun i => i ≤ T.n ∧ (T.w = false → ∀ q, q < i → [a0, a1, a2, a3, a4, a5, a6, a7].getD (T.f.toNat + q) 0 = T.v q)) (fun i => T.n - i)
    (fun i => [(11, i64 i), (10, i64 T.n), (9, .sq 3 ov 0 1 T.n .no), (4, .ptr 2 0), (3, .ptr 1 0), (2, .ptr 0 0)]) (fun _ => [])
    (fun i => [(0, .cells [.sb T.w, .sb T.d, .sb T.du, i64 T.b, i64 T.e, i64 T.f, .val pv] 90), (1, .arr [] 8 1 (urow (apF T (fun k => [a0, a1, a2, a3, a4, a5, a6, a7].getD k 0) i)) [] 57), (2, .cells [i64 0, i64 0, i64 0, i64 0, i64 0, i64 0, i64 0, i64 0] 57)]) 4 0 ⟨Nat.zero_le _, fun _ q hq => absurd hq (Nat.not_lt_zero _)⟩ [0, 1, 2, 3] rfl rfl (by
      simp [conj, less_rfl, ren_urow, renR_urow, apF_zero]
      intro i hi
      match i, hi with
      | 0, _ | 1, _ | 2, _ | 3, _ | 4, _ | 5, _ | 6, _ | 7, _ => exact ⟨_, rfl, .rfl⟩) ?_
  rintro i ⟨hi, hrd⟩ ih
  refine goT hB [(49, 12)] 400 rfl (by clear ih; first | exact conj_nil | simp [conj]) ?_
  by_cases hin : i < T.n
  · refine run_tt (by simpa using hin) ?_
    refine goT hB [(49, 17)] 400 rfl (by clear ih; simp [conj, hin]) ?_
    have e0 : 0 + ((i : Nat) : Int).toNat = i := by omega
    rw [e0]
    have hap : apF T (fun k => [a0, a1, a2, a3, a4, a5, a6, a7].getD k 0) i (T.f + i).toNat = [a0, a1, a2, a3, a4, a5, a6, a7].getD (T.f.toNat + i) 0 := by
      unfold apF; rw [if_neg (by omega), show (T.f + i).toNat = T.f.toNat + i by omega]
    have hsucc := apF_succ T (fun k => [a0, a1, a2, a3, a4, a5, a6, a7].getD k 0) i
    cases hw : T.w with
    | true =>
      refine run_tt rfl ?_
      refine goT hB [] 400 rfl (by clear ih; simp [conj, Fits_i64]; omega) ?_
      have ih := ih (i + 1) ⟨by omega, fun q => by rw [hw] at q; cases q⟩ (by omega)
      rw [hsucc, hw] at ih
      refine run_back ?_
      refine run_to hpin [0, 1, 2, 3] rfl rfl ?_ ih
      clear ih
      simp [conj, less_rfl, ren_urow, renR_urow]
      exact fun a _ => upd_less1 _ _ _ _ a (by omega)
    | false =>
      refine run_ff rfl ?_
      refine goT hB [(49, 27)] 400 rfl (by clear ih; simp [conj, Fits_i64]; omega) ?_
      rw [hap]
      by_cases hq : [a0, a1, a2, a3, a4, a5, a6, a7].getD (T.f.toNat + i) 0 = T.v i
      · refine run_ff (by simp only [hq]; simp) ?_
        refine goT hB [] 400 rfl (by clear ih; simp [conj, Fits_i64]; omega) ?_
        have ih := ih (i + 1) ⟨by omega, fun _ q hq2 => by
          by_cases q1 : q = i
          · rw [q1]; exact hq
          · exact hrd hw q (by omega)⟩ (by omega)
        rw [hsucc, hw] at ih
        refine run_back ?_
        refine run_to hpin [0, 1, 2, 3] rfl rfl ?_ ih
        clear ih
        simp [conj, less_rfl, ren_urow, renR_urow]
        exact fun a _ => upd_less1 _ _ _ _ a (by omega)
      · clear ih
        have hno : okA T [a0, a1, a2, a3, a4, a5, a6, a7] = false := by
          unfold okA
          rw [hw, Bool.false_or, List.all_eq_false]
          exact ⟨i, List.mem_range.2 hin, by rw [decide_eq_true_iff]; exact hq⟩
        refine run_tt (by simp only [hq]; simp) ?_
        refine goT hB [] 400 rfl (by first | exact conj_nil | simp [conj]) ?_
        refine run_flat 1 rfl rfl rfl ?_
        refine goT hB [] 400 rfl (by first | exact conj_nil | simp [conj]) ?_
        refine run_close (.inl rfl) ?_
        refine run_retC hpin ((List.range 8).map (apF T (fun k => [a0, a1, a2, a3, a4, a5, a6, a7].getD k 0) i), false) ⟨hno.symm, rfl, fun q => by rw [hno] at q; cases q⟩ [] rfl rfl (by first | exact conj_nil | simp [conj]) rfl ?_
        simp [conj, less_rfl]
  · clear ih
    have hie : i = T.n := by omega
    subst hie
    have hyes : okA T [a0, a1, a2, a3, a4, a5, a6, a7] = true := by
      unfold okA
      cases hw : T.w with
      | true => rfl
      | false =>
        rw [Bool.false_or, List.all_eq_true]
        exact fun q hq => by rw [decide_eq_true_iff]; exact hrd hw q (List.mem_range.1 hq)
    refine run_ff (by simp) ?_
    refine goT hB [] 400 rfl (by first | exact conj_nil | simp [conj]) ?_
    refine run_flat 1 rfl rfl rfl ?_
    refine goT hB [] 400 rfl (by first | exact conj_nil | simp [conj]) ?_
    refine run_close (.inl rfl) ?_
    refine run_retC hpin (apL T [a0, a1, a2, a3, a4, a5, a6, a7], true) ⟨hyes.symm, rfl, fun _ => rfl⟩ [] rfl rfl (by first | exact conj_nil | simp [conj]) rfl ?_
    simp [conj, less_rfl]
end Sx
