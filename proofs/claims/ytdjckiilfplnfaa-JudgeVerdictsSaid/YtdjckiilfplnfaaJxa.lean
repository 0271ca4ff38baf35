/- Chapter 47's reference: apply. Conditions: as each theorem says. -/
import Derived.Test.YtdjckiilfplnfaaJp
set_option linter.unusedSimpArgs false
set_option linter.unusedVariables false
namespace Sx
open Go Go.Proofs
set_option maxRecDepth 100000
set_option pp.deepTerms true
set_option pp.maxSteps 10000000
/-- A part as the reference holds it. -/
def partL (o : HO) (V : Value) (T : PT) (C U : Value) : List SV := [i64 o.k, i64 o.f, .val V, i64 o.b, i64 o.e, .sb o.fo, .sb T.du, .val C, .val U]
def crow (T : PT) : Nat → Nat → SV := fun k _ => .sb (decide (T.f.toNat ≤ k ∧ k < T.f.toNat + T.n))
def wrow (T : PT) : Nat → Int := fun k => if T.f.toNat ≤ k ∧ k < T.f.toNat + T.n then T.v (k - T.f.toNat) else 0
theorem ren_crow (nx : Nat) (sg : List Nat) (T : PT) (i k : Nat) : ren nx sg (crow T i k) = crow T i k := by simp only [crow, ren, renF, id]
theorem renR_crow (nx : Nat) (sg : List Nat) (T : PT) : renR nx sg (crow T) = crow T := by funext i k; exact ren_crow nx sg T i k
def apG (T : PT) (l : List Int) (i : Nat) : Nat → Int := fun k => if k < i ∧ T.f.toNat ≤ k ∧ k < T.f.toNat + T.n then T.v (k - T.f.toNat) else l.getD k 0
theorem apG_end (T : PT) (l : List Int) (n : Nat) (hT : T.f.toNat + T.n ≤ n) : apG T l n = apF T (fun k => l.getD k 0) T.n := by
  funext k
  unfold apG apF
  by_cases h : T.f.toNat ≤ k ∧ k < T.f.toNat + T.n
  · rw [if_pos ⟨by omega, h⟩, if_pos h]
  · rw [if_neg (fun q => h q.2), if_neg h]
theorem okA_iff (T : PT) (l : List Int) : okA T l = true ↔ T.w = true ∨ ∀ k, T.f.toNat ≤ k → k < T.f.toNat + T.n → l.getD k 0 = T.v (k - T.f.toNat) := by
  unfold okA
  rw [Bool.or_eq_true, List.all_eq_true]
  refine or_congr Iff.rfl ⟨fun h k h1 h2 => ?_, fun h i hi => ?_⟩
  · have := h (k - T.f.toNat) (List.mem_range.2 (by omega))
    rw [decide_eq_true_iff, show T.f.toNat + (k - T.f.toNat) = k by omega] at this
    exact this
  · have hi := List.mem_range.1 hi
    rw [decide_eq_true_iff, h _ (by omega) (by omega), Nat.add_sub_cancel_left]
set_option maxHeartbeats 4000000 in
theorem applyR_hcx {K : Kn} (o : HO) (V C U v : Value) (T : PT) (n : Nat) (l : List Int) (hn1 : 1 ≤ n) (hn : n ≤ 8) (hl : l.length = 8) (hz : ∀ k, n ≤ k → l.getD k 0 = 0) (hw : T.w = decide (o.k = 1)) (ho : o.k = 0 ∨ o.k = 1) (hT : T.f.toNat + T.n ≤ n) (hC : Froz K C n 1 (crow T)) (hU : Froz K U n 1 (urow (wrow T))) (hv : Froz K v n 1 (urow fun k => l.getD k 0)) :
    HCX Try.prog K M0 44 [.agg (partL o V T C U), .val v] [] [] 0 (fun (z : Option Value) K' => match z with
      | none => okA T l = false
      | some w => okA T l = true ∧ Froz K' w n 1 (urow fun k => (apL T l).getD k 0)) (fun z => match z with
      | none => ⟨.tup [.nilsl, .ff], [], 0⟩
      | some w => ⟨.tup [.val w, .tt], [], 0⟩) := by
  refine hcx_of_run Try.func44 rfl (fun B hB hK hpin => ?_)
  refine run_open hK 1 hv (by decide) rfl (fun o1 => ?_)
  refine goT hB [] 6 rfl (by first | exact conj_nil | simp [conj]) ?_
  refine run_openB hK 1 7 hC (by decide) rfl rfl (fun _ => rfl) (fun _ => rfl) (fun o2 => ?_)
  refine run_openB hK 1 8 hU (by decide) rfl rfl (fun _ => rfl) (fun _ => rfl) (fun o3 => ?_)
  refine goT hB [] 400 rfl (by simp [conj]; exact ⟨by omega, by omega, fun _ _ => rfl⟩) ?_
  refine run_loop ?_
  refine run_inv (ι := Nat) hpin (fun i => i ≤ n ∧ (T.w = true ∨ ∀ k, k < i → T.f.toNat ≤ k → k < T.f.toNat + T.n → l.getD k 0 = T.v (k - T.f.toNat))) (fun i => n - i)
    (fun i => [(7, i64 i), (6, .sq 4 0 0 1 n .own), (2, .ptr 1 0), (1, .sq 0 o1 0 1 n .no)]) (fun _ => []) (fun i => [(4, .row 0 n n 1 (urow (apG T l i)) 3), (1, .cells [i64 o.k, i64 o.f, .val V, i64 o.b, i64 o.e, .sb o.fo, .sb T.du, .sq 2 o2 0 1 n .no, .sq 3 o3 0 1 n .no] 85)]) 5 0 ⟨Nat.zero_le _, .inr fun k hk => absurd hk (Nat.not_lt_zero _)⟩ [0, 1, 2, 3, 4] rfl rfl (by
      simp [conj, less_rfl, ren_urow, renR_urow, ren_crow, renR_crow]
      intro i hi
      refine Less.of ?_
      simp [appF, urow, apG]
      rfl) ?_
  rintro i ⟨hi, hok⟩ ih
  refine goT hB [(44, 13)] 400 rfl (by clear ih; first | exact conj_nil | simp [conj]) ?_
  by_cases hin : i < n
  · have e0 : 0 + ((i : Nat) : Int).toNat = i := by omega
    refine run_tt (by simpa using hin) ?_
    refine goT hB [(44, 20)] 400 rfl (by clear ih; simp [conj, hin]) ?_
    rw [e0]
    by_cases hcv : T.f.toNat ≤ i ∧ i < T.f.toNat + T.n
    · refine run_tt (by simpa using hcv) ?_
      refine goT hB [(44, 37)] 400 rfl (by clear ih; simp [conj, hin]) ?_
      rw [e0]
      have hwi : wrow T i = T.v (i - T.f.toNat) := by unfold wrow; rw [if_pos hcv]
      rw [hwi]
      by_cases hbad : o.k = 0 ∧ ¬ l.getD i 0 = T.v (i - T.f.toNat)
      · clear ih
        refine run_tt (by simpa using hbad) ?_
        refine goT hB [] 400 rfl (by first | exact conj_nil | simp [conj]) ?_
        refine run_close (.inl rfl) ?_
        refine run_close (.inl rfl) ?_
        refine run_close (.inl rfl) ?_
        have hno : okA T l = false := by
          cases e : okA T l with
          | false => rfl
          | true =>
            exfalso
            rcases (okA_iff T l).1 e with q | q
            · rw [hw, decide_eq_true_iff] at q; omega
            · exact hbad.2 (q i hcv.1 hcv.2)
        refine run_retF (.refl hB hK) hpin none hno [] rfl rfl (by first | exact conj_nil | simp [conj]) rfl ?_
        simp [conj, less_rfl]
      · refine run_ff (by simpa using hbad) ?_
        have ih := ih (i + 1) ⟨by omega, by
          rcases ho with ho | ho
          · refine .inr fun k h1 h2 h3 => ?_
            rcases Nat.eq_or_lt_of_le (Nat.le_of_lt_succ h1) with e | e
            · subst e
              exact Decidable.byContradiction fun q => hbad ⟨ho, q⟩
            · rcases hok with q | q
              · rw [hw, decide_eq_true_iff] at q; omega
              · exact q k e h2 h3
          · exact .inl (by rw [hw, decide_eq_true_iff]; exact ho)⟩ (by omega)
        have hg : ∀ a, Less (urow (apG T l (i + 1)) a 0) (updF (urow (apG T l i)) i 0 (i64 (T.v (i - T.f.toNat))).cells a 0) := fun a => by
          have e : urow (apG T l (i + 1)) a 0 = urow (fun k => if k = i then T.v (i - T.f.toNat) else apG T l i k) a 0 := by
            unfold urow
            dsimp only
            congr 1
            unfold apG
            by_cases q : a = i
            · subst q; rw [if_pos rfl, if_pos ⟨by omega, hcv⟩]
            · rw [if_neg q]
              by_cases q2 : a < i
              · by_cases q3 : T.f.toNat ≤ a ∧ a < T.f.toNat + T.n
                · rw [if_pos ⟨by omega, q3⟩, if_pos ⟨q2, q3⟩]
                · rw [if_neg (fun z => q3 z.2), if_neg (fun z => q3 z.2)]
              · rw [if_neg (fun z => by have := z.1; omega), if_neg (fun z => q2 z.1)]
          rw [e]
          exact upd_less1 (apG T l i) i i (T.v (i - T.f.toNat)) a rfl
        refine goT hB [] 400 rfl (by clear ih; simp [conj, Fits_i64]; omega) ?_
        rw [e0, hwi]
        refine run_back ?_
        refine run_to hpin [0, 1, 2, 3, 4] rfl rfl ?_ ih
        clear ih
        simp [conj, less_rfl, ren_urow, renR_urow, ren_crow, renR_crow]
        exact fun a _ => hg a
    · refine run_ff (by simpa using hcv) ?_
      have ih := ih (i + 1) ⟨by omega, hok.imp_right fun q k h1 h2 h3 => by
        rcases Nat.eq_or_lt_of_le (Nat.le_of_lt_succ h1) with e | e
        · exact absurd ⟨e ▸ h2, e ▸ h3⟩ hcv
        · exact q k e h2 h3⟩ (by omega)
      have hg : apG T l (i + 1) = apG T l i := by
        funext k
        unfold apG
        by_cases h : T.f.toNat ≤ k ∧ k < T.f.toNat + T.n
        · by_cases hk : k < i
          · rw [if_pos ⟨by omega, h⟩, if_pos ⟨hk, h⟩]
          · by_cases hki : k = i
            · subst hki; exact absurd h hcv
            · rw [if_neg (fun q => by have := q.1; omega), if_neg (fun q => hk q.1)]
        · rw [if_neg (fun q => h q.2), if_neg (fun q => h q.2)]
      rw [hg] at ih
      refine goT hB [] 400 rfl (by clear ih; simp [conj, Fits_i64]; omega) ?_
      refine run_back ?_
      refine run_to hpin [0, 1, 2, 3, 4] rfl rfl ?_ ih
      clear ih
      simp [conj, less_rfl, ren_urow, renR_urow, ren_crow, renR_crow]
  · clear ih
    have : i = n := by omega
    subst this
    refine run_ff (by simp) ?_
    refine goT hB [] 400 rfl (by first | exact conj_nil | simp [conj]) ?_
    refine run_freeze hB hK 4 rfl rfl (Nat.le_refl _) (fun a c _ _ => rfl) rfl (fun w B5 K5 hv5 hF5 hp5 => ?_)
    rw [apG_end T l i hT] at hv5
    refine run_close (.inl rfl) ?_
    refine run_close (.inl rfl) ?_
    refine run_close (.inl rfl) ?_
    refine run_retF hF5 (hpin.fz hF5 hp5) (some w) ⟨(okA_iff T l).2 (hok.imp_right fun q k h1 h2 => q k (by omega) h1 h2), hv5.congr fun a c ha _ => by
      show i64 ((apL T l).getD a 0) = i64 _
      rw [apL_getD T l a (by omega)]⟩ [] rfl rfl (by first | exact conj_nil | simp [conj]) rfl ?_
    simp [conj, less_rfl]
end Sx
