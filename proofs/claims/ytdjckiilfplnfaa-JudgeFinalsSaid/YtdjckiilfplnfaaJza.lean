/- JudgeFinals: its walk. Conditions: as each theorem says. -/
import Derived.Test.YtdjckiilfplnfaaJyc
import Derived.Test.YtdjckiilfplnfaaJyd
set_option linter.unusedSimpArgs false
set_option linter.unusedVariables false
namespace Sx
open Go Go.Proofs
set_option maxRecDepth 100000
set_option pp.deepTerms true
set_option pp.maxSteps 10000000
/-- What the law takes. -/
structure ARG (K : Kn) (H : Hi) (vo vc : Value) (V : Nat → Value) : Prop extends HOK0 K H vo vc V where
  vf : ∀ i, i < H.m → ∀ k, k < (H.op i).n → Fits .i64 ((H.op i).v k)
theorem Small.ok {H : Hi} (s : Small H) {K : Kn} {vo vc : Value} {V : Nat → Value} (h : HOK0 K H vo vc V) : HOK K H vo vc V := h.ok s.m s.nc s.n
theorem pow_small {H : Hi} (s : Small H) (hv : VHi H) : (H.m + 1) ^ H.unit.toNat ≤ 15 ^ 8 := by
  have h1 := s.m
  have h2 := hv.u8
  exact Nat.le_trans (Nat.pow_le_pow_left (by omega) _) (Nat.pow_le_pow_right (by decide) (by omega))
theorem small_b (H : Hi) : ∃ b : Bool, b = true ↔ Small H := by
  by_cases q : Small H
  · exact ⟨true, by simp [q]⟩
  · exact ⟨false, by simp [q]⟩
theorem valid_b (H : Hi) : ∃ b : Bool, b = true ↔ VHi H := by
  by_cases q : VHi H
  · exact ⟨true, by simp [q]⟩
  · exact ⟨false, by simp [q]⟩
set_option maxHeartbeats 8000000 in
theorem judgeFinals_hcx {K : Kn} {H : Hi} {vo vc : Value} {V : Nat → Value} (h : ARG K H vo vc V) (u : Int) (hu : Fits .i64 u) :
    HCX Try.prog K M0 3 [hA H vo vc, i64 u] [] [] 0 (fun (_ : Unit) _ => True) (fun _ => ⟨.tt, [], 0⟩) := by
  obtain ⟨b, hb⟩ := small_b H
  obtain ⟨bv, hbv⟩ := valid_b H
  refine hcx_of_run Try.func3 rfl (fun B hB hK hpin => ?_)
  have hF0 : Fz B K M0 B K := .refl hB hK
  refine goT hB [] 400 rfl (by first | exact conj_nil | simp [conj]) ?_
  refine run_callCK (small_hck h.toHOK0 b hb) named hB hK [] rfl rfl rfl rfl (by first | exact conj_nil | simp [conj]) (by simp [conj, less_rfl]) ?_
  rintro ⟨⟩ _
  refine ⟨show 0 ≤ 0 by omega, _, _, _, rfl, rfl, rfl, ?_⟩
  refine goT hB [(3, 9)] 400 rfl (by first | exact conj_nil | simp [conj]) ?_
  cases hb1 : b with
  | false =>
    refine run_tt rfl ?_
    refine goT hB [] 400 rfl (by first | exact conj_nil | simp [conj]) ?_
    refine run_callCK (known_hck (K := K)) named hB hK [] rfl rfl rfl rfl (by first | exact conj_nil | simp [conj]) (by simp [conj, less_rfl]) ?_
    rintro ⟨⟩ _
    refine ⟨show 0 ≤ 0 by omega, _, _, _, rfl, rfl, rfl, ?_⟩
    refine goT hB [] 400 rfl (by first | exact conj_nil | simp [conj]) ?_
    refine run_retF hF0 hpin () trivial [] rfl rfl (by first | exact conj_nil | simp [conj]) rfl ?_
    simp [conj, less_rfl]
  | true =>
    have s : Small H := hb.1 hb1
    have h' := s.ok h.toHOK0
    refine run_ff rfl ?_
    refine goT hB [] 400 rfl (by first | exact conj_nil | simp [conj]) ?_
    cases hbv1 : bv with
    | false =>
      have hv : ¬ VHi H := fun q => by have := hbv.2 q; rw [hbv1] at this; cases this
      refine run_callCK (finals13_no h' hv u) named hB hK [] rfl rfl rfl rfl (by first | exact conj_nil | simp [conj]) (by simp [conj, less_rfl]) ?_
      rintro ⟨⟩ _
      refine ⟨show 0 ≤ 0 by omega, _, _, _, rfl, rfl, rfl, ?_⟩
      refine goT hB [] 400 rfl (by first | exact conj_nil | simp [conj]) ?_
      refine run_callCK (validR_hck h' h.u h.f bv hbv) named hB hK [] rfl rfl rfl rfl (by first | exact conj_nil | simp [conj]) (by simp [conj, less_rfl]) ?_
      rintro ⟨⟩ _
      refine ⟨show 0 ≤ 0 by omega, _, _, _, rfl, rfl, rfl, ?_⟩
      refine goT hB [(3, 19)] 400 rfl (by first | exact conj_nil | simp [conj]) ?_
      rw [hbv1]
      refine run_tt rfl ?_
      refine goT hB [] 400 rfl (by first | exact conj_nil | simp [conj]) ?_
      refine run_callCK (known_hck (K := K)) named hB hK [] rfl rfl rfl rfl (by first | exact conj_nil | simp [conj]) (by simp [conj, less_rfl]) ?_
      rintro ⟨⟩ _
      refine ⟨show 0 ≤ 0 by omega, _, _, _, rfl, rfl, rfl, ?_⟩
      refine goT hB [] 400 rfl (by first | exact conj_nil | simp [conj]) ?_
      refine run_retF hF0 hpin () trivial [] rfl rfl (by first | exact conj_nil | simp [conj]) rfl ?_
      simp [conj, less_rfl]
    | true =>
      have hv : VHi H := hbv.1 hbv1
      have hu1 := hv.u1
      have hu8 := hv.u8
      have hb1' := hv.b1
      have hb2 := hv.b2
      have hum := units_mul hv
      have hnU := units_le hv
      have hdiv : H.blocks / H.unit = (nU H : Int) := by
        unfold nU
        rw [Int.toNat_of_nonneg (Int.ediv_nonneg (by omega) (by omega))]
      by_cases hur : u < 0 ∨ (nU H : Int) ≤ u
      · refine run_callCK (finals13_range h' hv u hur) named hB hK [] rfl rfl rfl rfl (by first | exact conj_nil | simp [conj]) (by simp [conj, less_rfl]) ?_
        rintro ⟨⟩ _
        refine ⟨show 0 ≤ 0 by omega, _, _, _, rfl, rfl, rfl, ?_⟩
        refine goT hB [] 400 rfl (by first | exact conj_nil | simp [conj]) ?_
        refine run_callCK (validR_hck h' h.u h.f bv hbv) named hB hK [] rfl rfl rfl rfl (by first | exact conj_nil | simp [conj]) (by simp [conj, less_rfl]) ?_
        rintro ⟨⟩ _
        refine ⟨show 0 ≤ 0 by omega, _, _, _, rfl, rfl, rfl, ?_⟩
        refine goT hB [(3, 19)] 400 rfl (by first | exact conj_nil | simp [conj]) ?_
        rw [hbv1]
        refine run_ff rfl ?_
        refine goT hB [(3, 31)] 400 rfl (by first | exact conj_nil | simp [conj]) ?_
        by_cases q1 : u < 0
        · refine run_tt (by simpa using q1) ?_
          refine goT hB [] 400 rfl (by first | exact conj_nil | simp [conj]) ?_
          refine run_callCK (known_hck (K := K)) named hB hK [] rfl rfl rfl rfl (by first | exact conj_nil | simp [conj]) (by simp [conj, less_rfl]) ?_
          rintro ⟨⟩ _
          refine ⟨show 0 ≤ 0 by omega, _, _, _, rfl, rfl, rfl, ?_⟩
          refine goT hB [] 400 rfl (by first | exact conj_nil | simp [conj]) ?_
          refine run_retF hF0 hpin () trivial [] rfl rfl (by first | exact conj_nil | simp [conj]) rfl ?_
          simp [conj, less_rfl]
        · refine run_ff (by simpa using q1) ?_
          refine goT hB [(3, 39)] 400 rfl (by simp [conj, Fits_i64, hdiv]; omega) ?_
          rw [hdiv]
          refine run_tt (by simp; omega) ?_
          refine goT hB [] 400 rfl (by first | exact conj_nil | simp [conj]) ?_
          refine run_callCK (known_hck (K := K)) named hB hK [] rfl rfl rfl rfl (by first | exact conj_nil | simp [conj]) (by simp [conj, less_rfl]) ?_
          rintro ⟨⟩ _
          refine ⟨show 0 ≤ 0 by omega, _, _, _, rfl, rfl, rfl, ?_⟩
          refine goT hB [] 400 rfl (by first | exact conj_nil | simp [conj]) ?_
          refine run_retF hF0 hpin () trivial [] rfl rfl (by first | exact conj_nil | simp [conj]) rfl ?_
          simp [conj, less_rfl]
      · obtain ⟨n, rfl⟩ : ∃ n : Nat, u = n := ⟨u.toNat, by omega⟩
        have hn : n < nU H := by omega
        have hlen := (s.v hv).2 n hn
        have hub : ((n : Int) + 1) * H.unit ≤ H.blocks := by
          rw [← hum]; exact Int.mul_le_mul_of_nonneg_right (by omega) (by omega)
        have hpw := pow_small s hv
        have hnc := s.nc
        refine run_callX (finals13_hcx sortLaw sortNone h' hv (by omega) n hn (fun e he => by have := hlen e he; omega) h.vf (Nat.le_trans hpw (by decide))) named hB hK (fun _ h => h.elim) (.inr fun _ h => h) [] rfl rfl rfl rfl (by first | exact conj_nil | simp [conj]) (by simp [conj, less_rfl]) ?_
        rintro ⟨yv, Y, W⟩ B1 K1 ⟨hz1, hz2⟩ hF1 hp1
        dsimp only at hz1 hz2
        have hpin1 := hpin.fz hF1 hp1
        have hKB : ∀ b o, K b = some o → B1.D b = some o := fun b o q => hF1.le b o (hF1.old b o q (fun h => h))
        refine ⟨show 0 ≤ 0 by omega, _, _, _, rfl, rfl, rfl, ?_⟩
        refine goT hF1.ok [] 400 rfl (by first | exact conj_nil | simp [conj]) ?_
        refine run_callCK (validR_hck h' h.u h.f bv hbv) named hF1.ok hKB [] rfl rfl rfl rfl (by first | exact conj_nil | simp [conj]) (by simp [conj, less_rfl]) ?_
        rintro ⟨⟩ _
        refine ⟨show 0 ≤ 0 by omega, _, _, _, rfl, rfl, rfl, ?_⟩
        refine goT hF1.ok [(3, 19)] 400 rfl (by first | exact conj_nil | simp [conj]) ?_
        rw [hbv1]
        refine run_ff rfl ?_
        refine goT hF1.ok [(3, 31)] 400 rfl (by first | exact conj_nil | simp [conj]) ?_
        refine run_ff (by simp) ?_
        refine goT hF1.ok [(3, 39)] 400 rfl (by simp [conj, Fits_i64, hdiv]; omega) ?_
        rw [hdiv]
        refine run_ff (by simp; omega) ?_
        refine goT hF1.ok [] 400 rfl (by first | exact conj_nil | simp [conj]) ?_
        have h1 := h'.mono fun b o e => hF1.old b o e (fun h => h)
        refine run_callX (finalsR_hcx h1 hv (n : Int) (by omega) hub hlen (Nat.le_trans (Nat.mul_le_mul_right _ hpw) (by decide))) named hF1.ok hF1.le (fun _ h => h.elim) (.inr fun _ h => h) [] rfl rfl rfl rfl (by first | exact conj_nil | simp [conj]) (by simp [conj, less_rfl]) ?_
        rintro ⟨yv2, Y2, W2⟩ B2 K2 ⟨hy1, hy2⟩ hF2 hp2
        dsimp only at hy1 hy2
        have hYY : Y2 = Y := fins_unique hy2 hz2
        subst hYY
        have hpin2 := hpin1.fz hF2 hp2
        have hF2' := hF1.trans0 hF2 hK fun _ h => h.elim
        have hcnt : Y2.length ≤ 15 ^ 8 := Nat.le_trans (vok_count hv Y2 (ltV_nodup hz2.1) fun v hx => fs_vok hv (fun e he => by have := hlen e he; omega) _ (Nat.le_refl _) v ((hz2.2 v).1 hx)) hpw
        refine ⟨show 0 ≤ 0 by omega, _, _, _, rfl, rfl, rfl, ?_⟩
        refine goT hF2.ok [] 400 rfl (by first | exact conj_nil | simp [conj]) ?_
        refine run_callCK (sameE_hck yv yv2 W W2 Y2 H.unit.toNat (by omega) (by omega) ⟨hz1.1.fz hF2, fun i hi => (hz1.2 i hi).fz hF2⟩ hy1 (Nat.le_trans hcnt (by decide))) named hF2.ok hF2.le [] rfl rfl rfl rfl (by first | exact conj_nil | simp [conj]) (by simp [conj, less_rfl]) ?_
        rintro ⟨⟩ _
        refine ⟨show 0 ≤ 0 by omega, _, _, _, rfl, rfl, rfl, ?_⟩
        refine goT hF2.ok [] 400 rfl (by first | exact conj_nil | simp [conj]) ?_
        refine run_callCK (known_hck (K := K2)) named hF2.ok hF2.le [] rfl rfl rfl rfl (by first | exact conj_nil | simp [conj]) (by simp [conj, less_rfl]) ?_
        rintro ⟨⟩ _
        refine ⟨show 0 ≤ 0 by omega, _, _, _, rfl, rfl, rfl, ?_⟩
        refine goT hF2.ok [] 400 rfl (by first | exact conj_nil | simp [conj]) ?_
        refine run_retF hF2' hpin2 () trivial [] rfl rfl (by first | exact conj_nil | simp [conj]) rfl ?_
        simp [conj, less_rfl]
end Sx
