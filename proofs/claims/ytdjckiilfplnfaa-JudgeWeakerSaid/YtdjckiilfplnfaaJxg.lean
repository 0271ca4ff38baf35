/- Chapter 47's reference: Most. Conditions: as each theorem says. -/
import Derived.Test.YtdjckiilfplnfaaJxb
import Derived.Test.YtdjckiilfplnfaaEngX5
set_option linter.unusedSimpArgs false
set_option linter.unusedVariables false
namespace Sx
open Go Go.Proofs
set_option maxRecDepth 100000
set_option pp.deepTerms true
set_option pp.maxSteps 10000000
/-- The greatest number of parts of a unit in the first epochs. -/
def mxE (H : Hi) (u : Int) : Nat → Nat
  | 0 => 0
  | e + 1 => max (mxE H u e) (lenE H u e)
theorem mxE_le (H : Hi) (u : Int) (c : Nat) : ∀ e, mxE H u e ≤ c ↔ ∀ e', e' < e → lenE H u e' ≤ c
  | 0 => ⟨fun _ _ h => absurd h (Nat.not_lt_zero _), fun _ => Nat.zero_le _⟩
  | e + 1 => by
    have ih := mxE_le H u c e
    show max _ _ ≤ c ↔ _
    constructor
    · intro h e' he
      rcases Nat.eq_or_lt_of_le (Nat.le_of_lt_succ he) with q | q
      · rw [q]; omega
      · exact ih.1 (by omega) e' q
    · intro h
      have := h e (Nat.lt_succ_self e)
      have := ih.2 fun e' he => h e' (by omega)
      omega
theorem lenE_le (H : Hi) (u : Int) (e : Nat) : lenE H u e ≤ H.m := Nat.le_trans (List.length_filter_le _ _) (EI_len H e H.m)
set_option maxHeartbeats 8000000 in
theorem mostR_hcx {K : Kn} {H : Hi} {vo vc : Value} {V : Nat → Value} (h : HOK K H vo vc V) (hv : VHi H) (u : Int) (hu : 0 ≤ u) (hu2 : (u + 1) * H.unit ≤ H.blocks) :
    HCX Try.prog K M0 22 [hA H vo vc, i64 u] [] [] 0 (fun (_ : Unit) _ => True) (fun _ => ⟨i64 (mxE H u (H.nc + 1)), [], 0⟩) := by
  have hnc := h.nc
  have hm := h.m
  refine hcx_of_run Try.func22 rfl (fun B hB hK hpin => ?_)
  have hF0 : Fz B K M0 B K := .refl hB hK
  refine goT hB [] 400 rfl (by first | exact conj_nil | simp [conj]) ?_
  refine run_loop ?_
  refine run_to hpin [0] (nx' := 1) (rest' := []) (sl' := [(6, i64 ((0 : Nat) : Int)), (5, i64 (mxE H u 0)), (2, .ptr 0 0), (1, i64 u)]) (hp' := [(0, hC H vo vc)]) rfl rfl (by simp [conj, less_rfl, mxE]) ?_
  refine run_invX (ι := Nat) hF0 hpin (fun k _ => k ≤ H.nc + 1) (fun k => H.nc + 1 - k) (fun k => [(6, i64 k), (5, i64 (mxE H u k)), (2, .ptr 0 0), (1, i64 u)]) (fun _ => []) (fun _ => [(0, hC H vo vc)]) 0 (Nat.zero_le _) ?_
  rintro k B1 K1 hF1 hpin1 hk ih
  have hB1 := hF1.ok
  have hK1 := hF1.le
  have h1 := h.mono fun b o e => hF1.old b o e (fun h => h)
  have hmx : mxE H u k ≤ 100 := (mxE_le H u 100 k).2 fun e _ => Nat.le_trans (lenE_le H u e) hm
  refine goT hB1 [] 400 rfl (by clear ih; first | exact conj_nil | simp [conj]) ?_
  refine run_open hK1 9 h1.c (by decide) rfl (fun o1 => ?_)
  refine goT hB1 [(22, 11)] 400 rfl (by clear ih; first | exact conj_nil | simp [conj]) ?_
  refine run_close (.inl rfl) ?_
  by_cases hkl : k ≤ H.nc
  · refine run_tt (by simpa using hkl) ?_
    refine goT hB1 [] 400 rfl (by clear ih; first | exact conj_nil | simp [conj]) ?_
    refine run_callX (partsR_hcx h1 hv u hu hu2 k) named hB1 hK1 (fun _ h => h.elim) (.inr fun _ h => h) [] rfl rfl rfl rfl (by first | exact conj_nil | simp [conj]) (by clear ih; simp [conj, less_rfl]) ?_
    rintro ⟨lv, C, U⟩ B2 K2 ⟨hlv, hCU⟩ hF2 hp2
    dsimp only at hlv hCU
    have hF2' := hF1.trans0 hF2 hK fun _ h => h.elim
    have hpin2 := hpin1.fz hF2 hp2
    have ih := ih (k + 1) B2 K2 hF2' hpin2 (by omega) (by omega)
    have hle := lenE_le H u k
    refine ⟨show 0 ≤ 0 by omega, _, _, _, rfl, rfl, rfl, ?_⟩
    refine run_open hF2.le 18 hlv (by decide) rfl (fun o2 => ?_)
    refine goT hF2.ok [] 400 rfl (by clear ih; simp [conj, Fits_i64]; omega) ?_
    refine run_back ?_
    refine run_close (.inl rfl) ?_
    refine run_to hpin2 [0] rfl rfl ?_ ih
    clear ih
    simp [conj, less_rfl]
    show ((max (mxE H u k) (lenE H u k) : Nat) : Int) = _
    omega
  · clear ih
    have : k = H.nc + 1 := by omega
    subst this
    refine run_ff (by simp; omega) ?_
    refine goT hB1 [] 400 rfl (by first | exact conj_nil | simp [conj]) ?_
    refine run_retF hF1 hpin1 () trivial [] rfl rfl (by first | exact conj_nil | simp [conj]) rfl ?_
    simp [conj, less_rfl]
theorem mostR_hck {K : Kn} {H : Hi} {vo vc : Value} {V : Nat → Value} (h : HOK K H vo vc V) (hv : VHi H) (u : Int) (hu : 0 ≤ u) (hu2 : (u + 1) * H.unit ≤ H.blocks) :
    HCK Try.prog K 22 [hA H vo vc, i64 u] [] [] 0 (fun (_ : Unit) => True) (fun _ => ⟨i64 (mxE H u (H.nc + 1)), [], 0⟩) := hck_of_hcx (mostR_hcx h hv u hu hu2)
end Sx
