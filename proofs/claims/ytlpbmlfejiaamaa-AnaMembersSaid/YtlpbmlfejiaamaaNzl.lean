/- The reference of chapter 44: Log. Conditions: as each theorem says. -/
import Derived.Test.YtlpbmlfejiaamaaNzk
set_option linter.unusedSimpArgs false
set_option linter.unusedVariables false
namespace Sx
open Go Go.Proofs
set_option maxRecDepth 100000
set_option pp.deepTerms true
set_option pp.maxSteps 10000000
theorem lrow_app2 (s : GS) (V : Nat → Value) (i : Nat) (c : Int) (hc : c = s.ch i) (a b : Nat) (ha : a < i + 1) (hb : b < 4) :
    lrow s V a b = appF (lrow s V) i (fun a k => [i64 ((i : Int) + 1), i64 (stO s ((i : Int) + 1)), u64 c, .val (V i)][a * 4 + k]?.getD .und) a b := by
  subst hc
  by_cases e : a = i
  · subst e
    simp only [appF, blt_self, cond_false, Nat.sub_self]
    match b, hb with
    | 0, _ => rfl
    | 1, _ => rfl
    | 2, _ => rfl
    | 3, _ => rfl
  · have hlt : Nat.blt a i = true := by rw [Nat.blt_eq]; omega
    simp only [appF, hlt, cond_true]
theorem logR_no (K : Kn) (vL : Value) (n0 now : Int) (ht : ¬ (0 ≤ now ∧ now ≤ 1099511627776)) : HCK Try.prog K 49 [RG vL n0, i64 now] [] [] 0 (fun _ : Unit => True) (fun _ => ⟨.tup [RG vL n0, .agg [u64 0, .nilsl], i64 2], [], 0⟩) := by
  refine hck_of_run Try.func49 rfl (fun B hB hK hpin => ?_)
  refine goR hB rfl rfl (by first | exact conj_nil | simp [conj]) ?_
  refine run_callC (atR_no vL n0 now ht) named hB [] rfl rfl rfl rfl (by first | exact conj_nil | simp [conj]) (by first | exact conj_nil | simp [conj]) ?_
  rintro ⟨⟩ _
  refine ⟨show 0 ≤ 0 by omega, _, _, _, rfl, rfl, rfl, ?_⟩
  refine goR hB rfl rfl (by first | exact conj_nil | simp [conj]) ?_
  refine run_tt rfl ?_
  refine goR hB rfl rfl (by first | exact conj_nil | simp [conj]) ?_
  exact run_retC hpin () trivial [] rfl rfl (by first | exact conj_nil | simp [conj]) rfl (by first | exact conj_nil | simp [conj])
theorem logR_hck (K : Kn) (s : GS) (hs : GOk s) (l : List Int) (vL : Value) (V : Nat → Value) (hR : ROK K s l vL V) (now : Int) (ht : 0 ≤ now ∧ now ≤ 1099511627776) :
    HCK Try.prog K 49 [RG vL s.now, i64 now] [] [] 0 (fun _ : Unit => True) (fun _ => ⟨.tup [RG vL (max s.now now), .agg [u64 (tot s s.n.toNat), .sq 0 0 0 4 s.n.toNat .own], i64 0], [(0, .row 0 s.n.toNat s.n.toNat 4 (lrow (gAt s now) V) 81)], 1⟩) := by
  have hn0 := hs.n0
  have hn1 := hs.n1
  have hG := hR.g
  have hst := stR_hck K (gAt s now) (hs.at ht) l vL V (hR.at now)
  have hn : (s.n.toNat : Int) = s.n := by omega
  generalize s.n.toNat = n at hG hn
  refine hck_of_run Try.func49 rfl (fun B hB hK hpin => ?_)
  refine goR hB rfl rfl (by first | exact conj_nil | simp [conj]) ?_
  refine run_callC (atR_hc vL s.now now ht) named hB [] rfl rfl rfl rfl (by first | exact conj_nil | simp [conj]) (by first | exact conj_nil | simp [conj]) ?_
  rintro ⟨⟩ _
  refine ⟨show 0 ≤ 0 by omega, _, _, _, rfl, rfl, rfl, ?_⟩
  refine goR hB rfl rfl (by first | exact conj_nil | simp [conj]) ?_
  refine run_ff rfl ?_
  refine goR hB rfl rfl (by first | exact conj_nil | simp [conj]) ?_
  refine run_loop ?_
  refine run_inv (ι := Nat) hpin (fun i => i ≤ n) (fun i => n - i) (fun i => [(10, i64 i), (9, .ptr 4 0), (7, .ptr 3 0), (5, .ptr 2 0), (4, .ptr 1 0)]) (fun _ => []) (fun i => [(5, .row 0 i i 4 (lrow (gAt s now) V) 81), (4, .cells [u64 (tot s i), .sq 5 0 0 4 i .own] 67), (3, .cells [.val vL, i64 (max s.now now)] 37), (2, .cells [.und, .und] 67), (1, .cells [.und, .und] 37)]) 6 0 (Nat.zero_le _) [0, 1, 2, 3, 4, 5] rfl rfl (by simp [conj, less_rfl, tot]) ?_
  intro i hi ih
  refine goR hB rfl rfl (by first | exact conj_nil | simp [conj]) ?_
  refine run_open hK 25 hG (by decide) rfl (fun off => ?_)
  refine goR hB rfl rfl (by first | exact conj_nil | simp [conj]) ?_
  by_cases hi1 : i < n
  · refine run_tt (by simpa using hi1) ?_
    have ih := ih (i + 1) (by omega) (by omega)
    have hst := hst i (by show (i : Int) < s.n; omega)
    have e0 : 0 + ((i : Nat) : Int).toNat = i := by omega
    refine goR hB rfl rfl (by first | exact conj_nil | simp [conj]) ?_
    refine run_open hK 31 hG (by decide) rfl (fun off2 => ?_)
    refine goR hB rfl rfl (by simp [conj]; omega) ?_
    rw [e0]
    refine run_draw0 mixed (fun t => ?_)
    refine run_drawK (M := modeR) (kn := K) hK 1 16 rfl named hB sW_ok [(15, rcSR vL (max s.now now) i (stO (gAt s now) ((i : Int) + 1)))] ⟨⟨hst, rfl, Nat.le_refl _⟩, trivial⟩ rfl rfl rfl rfl rfl rfl ?_ (fun t => ?_)
    · simp [conj, Fits_i64]; omega
    refine run_drawE rfl ?_
    refine goR hB rfl rfl (by simp [conj, Fits_i64]; omega) ?_
    refine run_back ?_
    refine run_close (.inl rfl) ?_
    refine run_close (.inl rfl) ?_
    refine run_to hpin [0, 1, 2, 3, 4, 22] rfl rfl ?_ ih
    clear ih
    simp [conj, less_rfl, ren_lrow, renR_lrow, tot]
    exact fun a b ha hb => (by exact Less.of (lrow_app2 (gAt s now) V i (s.ch i) rfl a b ha hb))
  · clear ih
    have : i = n := by omega
    subst this
    refine run_ff (by simp) ?_
    refine goR hB rfl rfl (by first | exact conj_nil | simp [conj]) ?_
    refine run_close (.inl rfl) ?_
    refine run_retC hpin () trivial [5] rfl rfl (by first | exact conj_nil | simp [conj]) rfl ?_
    simp [conj, less_rfl, renR_lrow, ren_lrow]
end Sx
