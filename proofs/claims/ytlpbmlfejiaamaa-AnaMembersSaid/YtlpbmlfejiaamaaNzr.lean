/- What AnaPlays computes: true. Conditions: as each theorem says. -/
import Derived.Test.YtlpbmlfejiaamaaNzq
set_option linter.unusedSimpArgs false
set_option linter.unusedVariables false
namespace Sx
open Go Go.Proofs
set_option maxRecDepth 100000
set_option pp.deepTerms true
set_option pp.maxSteps 10000000
/-- The calls that came in: six numbers each. -/
def arow (a0 a1 a2 a3 a4 a5 : Nat → Int) : Nat → Nat → SV := fun i k => match k with
  | 0 => i64 (a0 i)
  | 1 => i64 (a1 i)
  | 2 => i64 (a2 i)
  | 3 => i64 (a3 i)
  | 4 => i64 (a4 i)
  | _ => u32 (a5 i)
theorem ren_arow (nx : Nat) (sg : List Nat) (a0 a1 a2 a3 a4 a5 : Nat → Int) (i k : Nat) : ren nx sg (arow a0 a1 a2 a3 a4 a5 i k) = arow a0 a1 a2 a3 a4 a5 i k := by
  unfold arow; split <;> simp only [ren, renF, id]
def rcAct (s : GS) (vL : Value) (w now g to dur nm : Int) : RC := ⟨17, [.ptr 0 0, RG vL s.now, .agg [i64 w, i64 now, i64 g, i64 to, i64 dur, u32 nm]], hpG s, [], 2, .und, [], 2, [1, 2]⟩
set_option maxHeartbeats 8000000 in
theorem plays_hcx (K : Kn) (n : Int) (off m : Nat) (a0 a1 a2 a3 a4 a5 : Nat → Int) (h5 : ∀ i, i < m → 0 ≤ a5 i ∧ a5 i ≤ 4294967295) :
    HCX Try.prog K M0 4 [i64 n, .sq 0 off 0 6 m .no] [] [(0, .row off m m 6 (arow a0 a1 a2 a3 a4 a5) anyTy)] 1 (fun (_ : Unit) _ => True) (fun _ => ⟨.tt, [], 1⟩) := by
  refine hcx_of_run Try.func4 rfl (fun B hB hK hpin => ?_)
  have hF0 : Fz B K M0 B K := .refl hB hK
  refine goAT hB [(4, 18)] 400 rfl (by first | exact conj_nil | simp [conj]) ?_
  by_cases hm : 40 < m
  · refine run_tt (by simp; omega) ?_
    refine goA hB rfl rfl (by first | exact conj_nil | simp [conj]) ?_
    exact run_retF hF0 hpin () trivial [0] rfl rfl (by first | exact conj_nil | simp [conj]) rfl (by simp [conj, less_rfl, ren_arow])
  refine run_ff (by simp; omega) ?_
  refine goAT hB [] 400 rfl (by first | exact conj_nil | simp [conj]) ?_
  by_cases hn : 1 ≤ n ∧ n ≤ 128
  · refine run_callX (made_hcx K n hn) named hB hK (fun _ h => h.elim) (.inr fun _ h => h) [] rfl rfl rfl rfl (by first | exact conj_nil | simp [conj]) (by first | exact conj_nil | simp [conj]) ?_
    rintro vL B2 K2 hv hF2 hp2
    have hB2 := hF2.ok
    have hK2 := hF2.le
    have hpin2 := hpin.fz hF2 hp2
    refine ⟨show 0 ≤ 2 by omega, _, _, _, rfl, rfl, rfl, ?_⟩
    refine goAT hB2 [(4, 25)] 400 rfl (by first | exact conj_nil | simp [conj]) ?_
    by_cases h10 : n ≤ 10
    · refine run_tt (by simpa using h10) ?_
      refine goAT hB2 [] 400 rfl (by first | exact conj_nil | simp [conj]) ?_
      refine run_loop ?_
      refine run_to hpin2 [0, 1, 2, 3] (nx' := 4) (rest' := []) (sl' := [(12, i64 ((0 : Nat) : Int)), (5, .ptr 1 0), (6, .ptr 3 0), (1, .sq 0 off 0 6 m .no)]) (hp' := [(1, gobj (gs0 n) 2), (2, mmap (gs0 n)), (3, .cells [.val vL, i64 (gs0 n).now] 37)]) rfl rfl ?_ ?_
      · simp [conj, less_rfl, ren_arow, ren_rG, renR_rG]
      refine run_invX (ι := Nat × AZ) hF2 hpin2 (fun z K' => z.1 ≤ m ∧ AInv K' z.2 ∧ z.2.1.n = n ∧ z.2.2.1.length ≤ z.1) (fun z => m - z.1) (fun z => [(12, i64 z.1), (5, .ptr 1 0), (6, .ptr 3 0), (1, .sq 0 off 0 6 m .no)]) (fun _ => []) (fun z => [(1, gobj z.2.1 2), (2, mmap z.2.1), (3, .cells [.val z.2.2.2.1, i64 z.2.1.now] 37)]) (0, (gs0 n, [], vL, V0)) ⟨Nat.zero_le _, ainv0 K2 n hn vL hv, rfl, Nat.le_refl 0⟩ ?_
      rintro ⟨i, s, l, v, V⟩ B3 K3 hF3 hpin3 ⟨hi, hA, hsn, hll⟩ ih
      have hB3 := hF3.ok
      have hK3 := hF3.le
      have hi : i ≤ m := hi
      have hll : l.length ≤ i := hll
      simp only at ih ⊢
      refine goAT hB3 [(4, 48)] 400 rfl (by first | exact conj_nil | simp [conj]) ?_
      by_cases him : i < m
      · refine run_tt (by simpa using him) ?_
        refine goAT hB3 [] 400 rfl (by first | exact conj_nil | simp [conj]) ?_
        refine run_draw0 mixed (fun t => ?_)
        have hact := act_all K3 s hA.s l hA.k (by omega) v V hA.r (a0 i) (a1 i) (a2 i) (a3 i) (a4 i) (a5 i) (h5 i him)
        refine run_drawX (M := modeA) hK3 2 15 rfl named hB3 sA_ok 6 (rcAct s v (a0 i) (a1 i) (a2 i) (a3 i) (a4 i) (a5 i)) (s, l, v, V) hact rfl (fun z => by show 2 ≤ 4; omega) [] trivial rfl rfl (fun z => rfl) rfl (fun z => rfl) rfl rfl rfl (fun z => ?_) (fun z => ?_) ?_
        · repeat' (first | exact trivial | exact Or.inr (Or.inr rfl) | exact Or.inl rfl | exact Or.inr (Or.inl rfl) | apply And.intro)
        · have e0 : 0 + ((i : Nat) : Int).toNat = i := by omega
          simp [conj, less_rfl, SO.Live, ren_rG, renR_rG, him]
        rintro ⟨s2, l2, v2, V2⟩ B4 K4 ⟨hA4, hn4, hl4⟩ hF4 hp4 t
        have hB4 := hF4.ok
        have hK4 := hF4.le
        have hpin4 := hpin3.fz hF4 hp4
        refine run_drawE rfl ?_
        refine goAT hB4 [] 400 rfl (by first | exact conj_nil | simp [conj]) ?_
        have hl5 : l2.length ≤ i + 1 := by have : l2.length ≤ l.length + 1 := hl4; omega
        refine run_callX (is_hcx K4 s2 hA4.s l2 hA4.k (by omega) v2 V2 hA4.r) named hB4 hK4 (fun _ h => h.elim) (.inr fun _ h => h) [10, 25] rfl rfl rfl rfl (by first | exact conj_nil | simp [conj]) (by simp [conj, less_rfl, ren_rG, renR_rG]) ?_
        rintro ⟨⟩ B5 K5 _ hF5 hp5
        have hB5 := hF5.ok
        have hpin5 := hpin4.fz hF5 hp5
        refine ⟨show 2 ≤ 2 by omega, _, _, _, rfl, rfl, rfl, ?_⟩
        have hA5 : AInv K5 (s2, l2, v2, V2) := ⟨hA4.s, hA4.k, ⟨hA4.r.g.fz hF5, fun j hj => (hA4.r.m j hj).fz hF5⟩⟩
        have ih := ih (i + 1, s2, l2, v2, V2) B5 K5 ((hF3.trans0 hF4 hK fun _ h => h.elim).trans0 hF5 hK fun _ h => h.elim) hpin5 ⟨him, hA5, by rw [← hsn]; exact hn4, hl5⟩ (by show m - (i + 1) < m - i; omega)
        refine goAT hB5 [] 400 rfl (by simp [conj, Fits_i64]; omega) ?_
        refine run_back ?_
        refine run_to hpin5 [0, 10, 25, 3] rfl rfl ?_ ih
        clear ih
        simp [conj, less_rfl, ren_arow, ren_rG, renR_rG]
      · clear ih
        refine run_ff (by simpa using him) ?_
        refine goAT hB3 [] 400 rfl (by first | exact conj_nil | simp [conj]) ?_
        exact run_retF hF3 hpin3 () trivial [0] rfl rfl (by first | exact conj_nil | simp [conj]) rfl (by simp [conj, less_rfl, ren_arow])
    · refine run_ff (by simpa using h10) ?_
      refine goAT hB2 [] 400 rfl (by first | exact conj_nil | simp [conj]) ?_
      refine run_callC (new_hc n hn) named hB2 [] rfl rfl rfl rfl (by first | exact conj_nil | simp [conj]) (by first | exact conj_nil | simp [conj]) ?_
      rintro ⟨⟩ _
      refine ⟨show 0 ≤ 2 by omega, _, _, _, rfl, rfl, rfl, ?_⟩
      refine goAT hB2 [] 400 rfl (by first | exact conj_nil | simp [conj]) ?_
      refine run_callX (newR_hcx K2 n hn) named hB2 hK2 (fun _ h => h.elim) (.inr fun _ h => h) [] rfl rfl rfl rfl (by first | exact conj_nil | simp [conj]) (by first | exact conj_nil | simp [conj]) ?_
      rintro vL' B3 K3 hv' hF3 hp3
      have hB3 := hF3.ok
      refine ⟨show 0 ≤ 0 by omega, _, _, _, rfl, rfl, rfl, ?_⟩
      refine goAT hB3 [] 400 rfl (by first | exact conj_nil | simp [conj]) ?_
      exact run_retF (hF2.trans0 hF3 hK fun _ h => h.elim) (hpin2.fz hF3 hp3) () trivial [0] rfl rfl (by first | exact conj_nil | simp [conj]) rfl (by simp [conj, less_rfl, ren_arow])
  · refine run_callC (made_no n (by omega)) named hB [] rfl rfl rfl rfl (by first | exact conj_nil | simp [conj]) (by first | exact conj_nil | simp [conj]) ?_
    rintro ⟨⟩ _
    refine ⟨show 0 ≤ 0 by omega, _, _, _, rfl, rfl, rfl, ?_⟩
    refine goAT hB [] 400 rfl (by first | exact conj_nil | simp [conj]) ?_
    have h1 : HC Try.prog 10 [i64 n] [] [] 0 (fun _ : Unit => True) (fun _ => ⟨.tup [.nil, i64 2], [], 0⟩) := by
      by_cases h : n < 1
      · exact new_lo n h
      · exact new_hi n (by omega)
    have h2 : HC Try.prog 16 [i64 n] [] [] 0 (fun _ : Unit => True) (fun _ => ⟨.tup [.agg [.nilsl, i64 0], i64 2], [], 0⟩) := by
      by_cases h : n < 1
      · exact newR_lo n h
      · exact newR_hi n (by omega)
    refine run_callC h1 named hB [] rfl rfl rfl rfl (by first | exact conj_nil | simp [conj]) (by first | exact conj_nil | simp [conj]) ?_
    rintro ⟨⟩ _
    refine ⟨show 0 ≤ 0 by omega, _, _, _, rfl, rfl, rfl, ?_⟩
    refine goAT hB [] 400 rfl (by first | exact conj_nil | simp [conj]) ?_
    refine run_callC h2 named hB [] rfl rfl rfl rfl (by first | exact conj_nil | simp [conj]) (by first | exact conj_nil | simp [conj]) ?_
    rintro ⟨⟩ _
    refine ⟨show 0 ≤ 0 by omega, _, _, _, rfl, rfl, rfl, ?_⟩
    refine goAT hB [] 400 rfl (by first | exact conj_nil | simp [conj]) ?_
    exact run_retF hF0 hpin () trivial [0] rfl rfl (by first | exact conj_nil | simp [conj]) rfl (by simp [conj, less_rfl, ren_arow])
end Sx
