/- JudgeSequential: its walk. Conditions: as each theorem says. -/
import Derived.Test.YtdjckiilfplnfaaJsim
set_option linter.unusedSimpArgs false
set_option linter.unusedVariables false
namespace Sx
open Go Go.Proofs
set_option maxRecDepth 100000
set_option pp.deepTerms true
set_option pp.maxSteps 10000000
set_option maxHeartbeats 16000000 in
theorem judgeSequential_hcx {K : Kn} {un us : Int} {n : Nat} {a : Nat → AC} {lv : Value} {V : Nat → Value} (hun : Fits .i64 un) (hus : Fits .i64 us) (hF : Froz K lv n 5 (arw a V)) (hV : ∀ i, i < n → Froz K (V i) (a i).n 1 (urow (a i).v))
    (hf : ∀ i, i < n → Fits .i64 (a i).f ∧ Fits .i64 (a i).kp ∧ (a i).n ≤ 9223372036854775807 ∧ ∀ q, q < (a i).n → Fits .i64 ((a i).v q)) :
    HCX Try.prog K M0 6 [i64 un, i64 us, .val lv] [] [] 0 (fun (_ : Unit) _ => True) (fun _ => ⟨.tt, [], 0⟩) := by
  refine hcx_of_run Try.func6 rfl (fun B hB hK hpin => ?_)
  have hF0 : Fz B K M0 B K := .refl hB hK
  refine goT hB [(6, 14)] 400 rfl (by first | exact conj_nil | simp [conj]) ?_
  by_cases c0 : un < 1
  · refine run_tt (by simp; omega) ?_
    refine goT hB [] 400 rfl (by first | exact conj_nil | simp [conj]) ?_
    refine run_callCK (known_hck (K := K)) named hB hK [] rfl rfl rfl rfl (by first | exact conj_nil | simp [conj]) (by simp [conj, less_rfl]) ?_
    rintro ⟨⟩ _
    refine ⟨show 0 ≤ 0 by omega, _, _, _, rfl, rfl, rfl, ?_⟩
    refine goT hB [] 400 rfl (by first | exact conj_nil | simp [conj]) ?_
    refine run_retF hF0 hpin () trivial [] rfl rfl (by first | exact conj_nil | simp [conj]) rfl ?_
    simp [conj, less_rfl]
  refine run_ff (by simp; omega) ?_
  refine goT hB [(6, 17)] 400 rfl (by first | exact conj_nil | simp [conj]) ?_
  by_cases c1 : 4 < un
  · refine run_tt (by simp; omega) ?_
    refine goT hB [] 400 rfl (by first | exact conj_nil | simp [conj]) ?_
    refine run_callCK (known_hck (K := K)) named hB hK [] rfl rfl rfl rfl (by first | exact conj_nil | simp [conj]) (by simp [conj, less_rfl]) ?_
    rintro ⟨⟩ _
    refine ⟨show 0 ≤ 0 by omega, _, _, _, rfl, rfl, rfl, ?_⟩
    refine goT hB [] 400 rfl (by first | exact conj_nil | simp [conj]) ?_
    refine run_retF hF0 hpin () trivial [] rfl rfl (by first | exact conj_nil | simp [conj]) rfl ?_
    simp [conj, less_rfl]
  refine run_ff (by simp; omega) ?_
  refine goT hB [(6, 21)] 400 rfl (by first | exact conj_nil | simp [conj]) ?_
  by_cases c2 : us < 1
  · refine run_tt (by simp; omega) ?_
    refine goT hB [] 400 rfl (by first | exact conj_nil | simp [conj]) ?_
    refine run_callCK (known_hck (K := K)) named hB hK [] rfl rfl rfl rfl (by first | exact conj_nil | simp [conj]) (by simp [conj, less_rfl]) ?_
    rintro ⟨⟩ _
    refine ⟨show 0 ≤ 0 by omega, _, _, _, rfl, rfl, rfl, ?_⟩
    refine goT hB [] 400 rfl (by first | exact conj_nil | simp [conj]) ?_
    refine run_retF hF0 hpin () trivial [] rfl rfl (by first | exact conj_nil | simp [conj]) rfl ?_
    simp [conj, less_rfl]
  refine run_ff (by simp; omega) ?_
  refine goT hB [(6, 25)] 400 rfl (by first | exact conj_nil | simp [conj]) ?_
  by_cases c3 : 4 < us
  · refine run_tt (by simp; omega) ?_
    refine goT hB [] 400 rfl (by first | exact conj_nil | simp [conj]) ?_
    refine run_callCK (known_hck (K := K)) named hB hK [] rfl rfl rfl rfl (by first | exact conj_nil | simp [conj]) (by simp [conj, less_rfl]) ?_
    rintro ⟨⟩ _
    refine ⟨show 0 ≤ 0 by omega, _, _, _, rfl, rfl, rfl, ?_⟩
    refine goT hB [] 400 rfl (by first | exact conj_nil | simp [conj]) ?_
    refine run_retF hF0 hpin () trivial [] rfl rfl (by first | exact conj_nil | simp [conj]) rfl ?_
    simp [conj, less_rfl]
  refine run_ff (by simp; omega) ?_
  refine goT hB [] 400 rfl (by first | exact conj_nil | simp [conj]) ?_
  refine run_open hK 28 hF (by decide) rfl (fun o1 => ?_)
  refine goT hB [(6, 30)] 400 rfl (by first | exact conj_nil | simp [conj]) ?_
  by_cases c4 : 24 < n
  · refine run_tt (by simp; omega) ?_
    refine run_close (.inl rfl) ?_
    refine goT hB [] 400 rfl (by first | exact conj_nil | simp [conj]) ?_
    refine run_callCK (known_hck (K := K)) named hB hK [] rfl rfl rfl rfl (by first | exact conj_nil | simp [conj]) (by simp [conj, less_rfl]) ?_
    rintro ⟨⟩ _
    refine ⟨show 0 ≤ 0 by omega, _, _, _, rfl, rfl, rfl, ?_⟩
    refine goT hB [] 400 rfl (by first | exact conj_nil | simp [conj]) ?_
    refine run_retF hF0 hpin () trivial [] rfl rfl (by first | exact conj_nil | simp [conj]) rfl ?_
    simp [conj, less_rfl]
  refine run_ff (by simp; omega) ?_
  refine run_close (.inl rfl) ?_
  obtain ⟨p, rfl⟩ : ∃ p : Nat, un = p := ⟨un.toNat, by omega⟩
  obtain ⟨q, rfl⟩ : ∃ q : Nat, us = q := ⟨us.toNat, by omega⟩
  obtain ⟨b, hbe⟩ : ∃ b : Nat, b = p * q := ⟨_, rfl⟩
  have hbi : (p : Int) * (q : Int) = (b : Int) := by rw [hbe]; exact (Int.natCast_mul p q).symm
  have hb1 : 1 ≤ b := by rw [hbe]; exact Nat.mul_pos (by omega) (by omega)
  have hb16 : b ≤ 16 := by
    have := Nat.mul_le_mul (show p ≤ 4 by omega) (show q ≤ 4 by omega)
    omega
  refine goT hB [] 400 rfl (by simp [conj, Fits_i64, hbi]; omega) ?_
  rw [hbi]
  refine run_callX (simulate_hcx (un := (p : Int)) (b := b) (n := n) (a := a) hb1 hb16 (by omega) hF hV hf) named hB hK (fun _ h => h.elim) (.inr fun _ h => h) [] rfl rfl rfl rfl (by first | exact conj_nil | simp [conj]) (by simp [conj, less_rfl]) ?_
  rintro ⟨fine, vo, vc, W⟩ B1 K1 hz hF1 hp1
  have hpin1 := hpin.fz hF1 hp1
  have hB1 := hF1.ok
  have hK1 := hF1.le
  refine ⟨show 0 ≤ 0 by omega, _, _, _, rfl, rfl, rfl, ?_⟩
  cases fine with
  | false =>
    refine goT hB1 [] 400 rfl (by first | exact conj_nil | simp [conj]) ?_
    refine run_callCK (known_hck (K := K1)) named hB1 hK1 [] rfl rfl rfl rfl (by first | exact conj_nil | simp [conj]) (by simp [conj, less_rfl]) ?_
    rintro ⟨⟩ _
    refine ⟨show 0 ≤ 0 by omega, _, _, _, rfl, rfl, rfl, ?_⟩
    refine goT hB1 [] 400 rfl (by first | exact conj_nil | simp [conj]) ?_
    refine run_retF hF1 hpin1 () trivial [] rfl rfl (by first | exact conj_nil | simp [conj]) rfl ?_
    simp [conj, less_rfl]
  | true =>
    obtain ⟨hok, h1, hown⟩ := hz.resolve_left (fun g => by cases g.1)|>.2
    obtain ⟨A, S, M, WW, hiv⟩ := IV.sim (p : Int) (b : Int) a n hok
    have hvv := VV.sim (b : Int) a n (fun j hj => ⟨hok j hj, (hf j hj).2.2.2⟩)
    obtain ⟨H, hH⟩ : ∃ H, H = (simA a n).hi (p : Int) (b : Int) := ⟨_, rfl⟩
    have hVH : VHi H := by
      rw [hH]
      refine hvv.valid (by omega) (by omega) (by omega) (by omega) ?_
      rw [← hbi]; exact Int.mul_emod_right _ _
    have htr : Tr H A S M := by rw [hH]; exact hiv.tr
    have hUn : H.unit = (p : Nat) := by rw [hH]; rfl
    have hBl : H.blocks = (b : Nat) := by rw [hH]; rfl
    have hnU : nU H = q := by
      unfold nU
      rw [hUn, hBl, ← hbi, Int.mul_ediv_cancel_left _ (by omega)]; rfl
    have hum := units_mul hVH
    have hvf : ∀ i, i < H.m → ∀ k, k < (H.op i).n → Fits .i64 ((H.op i).v k) := by
      rw [hH]
      exact fun i hi k hk => (hvv.o _ (hvv.mem hi)).1.v k hk
    have hlo := hvv.lo
    have hnc : H.nc ≤ 24 := by
      rw [hH]
      show (simA a n).cuts.length ≤ 24
      omega
    have h1 : HOK K1 H vo vc W := by rw [hH]; exact h1
    refine goT hB1 [] 400 rfl (by first | exact conj_nil | simp [conj]) ?_
    skip
    refine run_loop ?_
    refine run_to hpin1 [1] (nx' := 1) (rest' := []) (sl' := [(9, i64 ((0 : Nat) : Int)), (7, .ptr 0 0), (1, i64 (q : Int)), (0, i64 (p : Int))]) (hp' := [(0, hC H vo vc)]) rfl rfl (by simp [conj, less_rfl, hC, hUn, hBl]) ?_
    refine run_inv (ι := Nat) hpin1 (fun u => u ≤ q ∧ ∀ j, j < u → ∀ e, e ≤ H.nc → lenE H (j : Nat) e ≤ 12) (fun u => q - u) (fun u => [(9, i64 u), (7, .ptr 0 0), (1, i64 (q : Int)), (0, i64 (p : Int))]) (fun _ => []) (fun _ => [(0, hC H vo vc)]) 1 0 ⟨Nat.zero_le _, fun j hj => absurd hj (Nat.not_lt_zero _)⟩ [0] rfl rfl (by simp [conj, less_rfl]) ?_
    rintro u ⟨hu, hallu⟩ ih
    refine goT hB1 [(6, 47)] 400 rfl (by clear ih; first | exact conj_nil | simp [conj]) ?_
    by_cases hul : u < q
    · refine run_tt (by simpa using hul) ?_
      refine goT hB1 [] 400 rfl (by clear ih; first | exact conj_nil | simp [conj]) ?_
      have hub : ((u : Int) + 1) * H.unit ≤ H.blocks := by
        rw [← hum, hnU]; exact Int.mul_le_mul_of_nonneg_right (by omega) (by rw [hUn]; omega)
      refine run_callCK (mostR_hck h1 hVH (u : Int) (by omega) hub) named hB1 hK1 [] rfl rfl rfl rfl (by first | exact conj_nil | simp [conj]) (by clear ih; simp [conj, less_rfl]) ?_
      rintro ⟨⟩ _
      refine ⟨show 0 ≤ 0 by omega, _, _, _, rfl, rfl, rfl, ?_⟩
      refine goT hB1 [(6, 53)] 400 rfl (by clear ih; first | exact conj_nil | simp [conj]) ?_
      have hmx := mxE_le H (u : Int) 12 (H.nc + 1)
      by_cases q5 : 12 < mxE H (u : Int) (H.nc + 1)
      · clear ih
        refine run_tt (by simp; omega) ?_
        refine goT hB1 [] 400 rfl (by first | exact conj_nil | simp [conj]) ?_
        refine run_callCK (known_hck (K := K1)) named hB1 hK1 [] rfl rfl rfl rfl (by first | exact conj_nil | simp [conj]) (by simp [conj, less_rfl]) ?_
        rintro ⟨⟩ _
        refine ⟨show 0 ≤ 0 by omega, _, _, _, rfl, rfl, rfl, ?_⟩
        refine goT hB1 [] 400 rfl (by first | exact conj_nil | simp [conj]) ?_
        refine run_retF hF1 hpin1 () trivial [] rfl rfl (by first | exact conj_nil | simp [conj]) rfl ?_
        simp [conj, less_rfl]
      · have ih := ih (u + 1) ⟨by omega, fun j hj e he => by
          rcases Nat.eq_or_lt_of_le (Nat.le_of_lt_succ hj) with g | g
          · rw [g]; exact hmx.1 (by omega) e (by omega)
          · exact hallu j g e he⟩ (by omega)
        refine run_ff (by simp; omega) ?_
        refine goT hB1 [] 400 rfl (by clear ih; simp [conj, Fits_i64]; omega) ?_
        refine run_back ?_
        refine run_to hpin1 [0] rfl rfl ?_ ih
        clear ih
        simp [conj, less_rfl]
    clear ih
    have hue : u = q := by omega
    subst hue
    refine run_ff (by simp) ?_
    have hall : ∀ u', u' < nU H → SomeF H u' := fun u' hu' => htr.some hUn (by omega) hVH (fun e he => hallu u' (by omega) e he)
    refine goT hB1 [] 400 rfl (by first | exact conj_nil | simp [conj]) ?_
    refine run_callCK (explained_hck h1 hVH hnc hvf) named hB1 hK1 [] rfl rfl rfl rfl (by first | exact conj_nil | simp [conj]) (by simp [conj, less_rfl]) ?_
    rintro (_ | ⟨be, ke⟩) hz
    · obtain ⟨u, e, q1, q2, q3⟩ := hz
      have := hallu u (by omega) e q2
      omega
    · obtain ⟨_, hex⟩ := hz
      have hbe : be = true ∧ ke = 0 := by
        rcases hex with ⟨e1, e2, _⟩ | ⟨_, k', _, g1, g2, _⟩
        · exact ⟨e1, e2⟩
        · exact absurd (hall k' g1) g2
      obtain ⟨rfl, rfl⟩ := hbe
      refine ⟨show 0 ≤ 0 by omega, _, _, _, rfl, rfl, rfl, ?_⟩
      skip
      refine goT hB1 [] 400 rfl (by first | exact conj_nil | simp [conj]) ?_
      refine run_callCK (known_hck (K := K1)) named hB1 hK1 [] rfl rfl rfl rfl (by first | exact conj_nil | simp [conj]) (by simp [conj, less_rfl]) ?_
      rintro ⟨⟩ _
      refine ⟨show 0 ≤ 0 by omega, _, _, _, rfl, rfl, rfl, ?_⟩
      refine goT hB1 [] 400 rfl (by first | exact conj_nil | simp [conj]) ?_
      refine run_retF hF1 hpin1 () trivial [] rfl rfl (by first | exact conj_nil | simp [conj]) rfl ?_
      simp [conj, less_rfl]
end Sx
