/- JudgeCatches: its walk. Conditions: as each theorem says. -/
import Derived.Test.YtdjckiilfplnfaaJsim
import Derived.Test.YtdjckiilfplnfaaOwnX17
import Derived.Test.YtdjckiilfplnfaaEngX5
set_option linter.unusedSimpArgs false
set_option linter.unusedVariables false
namespace Sx
open Go Go.Proofs
set_option maxRecDepth 100000
set_option pp.deepTerms true
set_option pp.maxSteps 10000000
theorem upd_at (f : Nat → Int) (k q : Nat) (x : Int) : updF (urow f) k 0 (SV.int .i64 x).cells q 0 = i64 (if q = k then x else f q) := by
  unfold updF urow
  by_cases e : q = k
  · subst e; simp [SV.cells]
  · simp [e]
set_option maxHeartbeats 32000000 in
theorem judgeCatches_hcx {K : Kn} {un us rd bk : Int} {n : Nat} {a : Nat → AC} {lv : Value} {V : Nat → Value} (hun : Fits .i64 un) (hus : Fits .i64 us) (hrd : Fits .i64 rd) (hbk : Fits .i64 bk) (hF : Froz K lv n 5 (arw a V)) (hV : ∀ i, i < n → Froz K (V i) (a i).n 1 (urow (a i).v))
    (hf : ∀ i, i < n → Fits .i64 (a i).f ∧ Fits .i64 (a i).kp ∧ (a i).n ≤ 9223372036854775807 ∧ ∀ q, q < (a i).n → Fits .i64 ((a i).v q)) :
    HCX Try.prog K M0 7 [i64 un, i64 us, .val lv, i64 rd, i64 bk] [] [] 0 (fun (_ : Unit) _ => True) (fun _ => ⟨.tt, [], 0⟩) := by
  refine hcx_of_run Try.func7 rfl (fun B hB hK hpin => ?_)
  have hF0 : Fz B K M0 B K := .refl hB hK
  refine goT hB [(7, 23)] 400 rfl (by first | exact conj_nil | simp [conj]) ?_
  by_cases c0 : un < 1
  · refine run_tt (by simp; omega) ?_
    refine goT hB [] 400 rfl (by first | exact conj_nil | simp [conj]) ?_
    refine run_callCK (known_hck (K := K)) named hB hK [] rfl rfl rfl rfl (by first | exact conj_nil | simp [conj]) (by simp [conj, less_rfl]) ?_
    rintro ⟨⟩ _
    refine ⟨show 0 ≤ 0 by omega, _, _, _, rfl, rfl, rfl, ?_⟩
    refine goT hB [] 400 rfl (by first | exact conj_nil | simp [conj]) ?_
    refine run_retF hF0 hpin () trivial [] rfl rfl (by first | exact conj_nil | simp [conj]) rfl ?_
    simp [conj, less_rfl]
  refine run_ff (by simp; omega) ?_
  refine goT hB [(7, 26)] 400 rfl (by first | exact conj_nil | simp [conj]) ?_
  by_cases c1 : 4 < un
  · refine run_tt (by simp; omega) ?_
    refine goT hB [] 400 rfl (by first | exact conj_nil | simp [conj]) ?_
    refine run_callCK (known_hck (K := K)) named hB hK [] rfl rfl rfl rfl (by first | exact conj_nil | simp [conj]) (by simp [conj, less_rfl]) ?_
    rintro ⟨⟩ _
    refine ⟨show 0 ≤ 0 by omega, _, _, _, rfl, rfl, rfl, ?_⟩
    refine goT hB [] 400 rfl (by first | exact conj_nil | simp [conj]) ?_
    refine run_retF hF0 hpin () trivial [] rfl rfl (by first | exact conj_nil | simp [conj]) rfl ?_
    simp [conj, less_rfl]
  refine run_ff (by simp; omega) ?_
  refine goT hB [(7, 30)] 400 rfl (by first | exact conj_nil | simp [conj]) ?_
  by_cases c2 : us < 1
  · refine run_tt (by simp; omega) ?_
    refine goT hB [] 400 rfl (by first | exact conj_nil | simp [conj]) ?_
    refine run_callCK (known_hck (K := K)) named hB hK [] rfl rfl rfl rfl (by first | exact conj_nil | simp [conj]) (by simp [conj, less_rfl]) ?_
    rintro ⟨⟩ _
    refine ⟨show 0 ≤ 0 by omega, _, _, _, rfl, rfl, rfl, ?_⟩
    refine goT hB [] 400 rfl (by first | exact conj_nil | simp [conj]) ?_
    refine run_retF hF0 hpin () trivial [] rfl rfl (by first | exact conj_nil | simp [conj]) rfl ?_
    simp [conj, less_rfl]
  refine run_ff (by simp; omega) ?_
  refine goT hB [(7, 34)] 400 rfl (by first | exact conj_nil | simp [conj]) ?_
  by_cases c3 : 4 < us
  · refine run_tt (by simp; omega) ?_
    refine goT hB [] 400 rfl (by first | exact conj_nil | simp [conj]) ?_
    refine run_callCK (known_hck (K := K)) named hB hK [] rfl rfl rfl rfl (by first | exact conj_nil | simp [conj]) (by simp [conj, less_rfl]) ?_
    rintro ⟨⟩ _
    refine ⟨show 0 ≤ 0 by omega, _, _, _, rfl, rfl, rfl, ?_⟩
    refine goT hB [] 400 rfl (by first | exact conj_nil | simp [conj]) ?_
    refine run_retF hF0 hpin () trivial [] rfl rfl (by first | exact conj_nil | simp [conj]) rfl ?_
    simp [conj, less_rfl]
  refine run_ff (by simp; omega) ?_
  refine goT hB [] 400 rfl (by first | exact conj_nil | simp [conj]) ?_
  refine run_open hK 37 hF (by decide) rfl (fun o1 => ?_)
  refine goT hB [(7, 39)] 400 rfl (by first | exact conj_nil | simp [conj]) ?_
  by_cases c4 : 24 < n
  · refine run_tt (by simp; omega) ?_
    refine run_close (.inl rfl) ?_
    refine goT hB [] 400 rfl (by first | exact conj_nil | simp [conj]) ?_
    refine run_callCK (known_hck (K := K)) named hB hK [] rfl rfl rfl rfl (by first | exact conj_nil | simp [conj]) (by simp [conj, less_rfl]) ?_
    rintro ⟨⟩ _
    refine ⟨show 0 ≤ 0 by omega, _, _, _, rfl, rfl, rfl, ?_⟩
    refine goT hB [] 400 rfl (by first | exact conj_nil | simp [conj]) ?_
    refine run_retF hF0 hpin () trivial [] rfl rfl (by first | exact conj_nil | simp [conj]) rfl ?_
    simp [conj, less_rfl]
  refine run_ff (by simp; omega) ?_
  refine run_close (.inl rfl) ?_
  obtain ⟨p, rfl⟩ : ∃ p : Nat, un = p := ⟨un.toNat, by omega⟩
  obtain ⟨q, rfl⟩ : ∃ q : Nat, us = q := ⟨us.toNat, by omega⟩
  obtain ⟨b, hbe⟩ : ∃ b : Nat, b = p * q := ⟨_, rfl⟩
  have hbi : (p : Int) * (q : Int) = (b : Int) := by rw [hbe]; exact (Int.natCast_mul p q).symm
  have hb1 : 1 ≤ b := by rw [hbe]; exact Nat.mul_pos (by omega) (by omega)
  have hb16 : b ≤ 16 := by
    have := Nat.mul_le_mul (show p ≤ 4 by omega) (show q ≤ 4 by omega)
    omega
  refine goT hB [] 400 rfl (by simp [conj, Fits_i64, hbi]; omega) ?_
  rw [hbi]
  refine run_callX (simulate_hcx (un := (p : Int)) (b := b) (n := n) (a := a) hb1 hb16 (by omega) hF hV hf) named hB hK (fun _ h => h.elim) (.inr fun _ h => h) [] rfl rfl rfl rfl (by first | exact conj_nil | simp [conj]) (by simp [conj, less_rfl]) ?_
  rintro ⟨fine, vo, vc, W⟩ B1 K1 hz hF1 hp1
  have hpin1 := hpin.fz hF1 hp1
  have hB1 := hF1.ok
  have hK1 := hF1.le
  refine ⟨show 0 ≤ 0 by omega, _, _, _, rfl, rfl, rfl, ?_⟩
  cases fine with
  | false =>
    refine goT hB1 [] 400 rfl (by first | exact conj_nil | simp [conj]) ?_
    refine run_callCK (known_hck (K := K1)) named hB1 hK1 [] rfl rfl rfl rfl (by first | exact conj_nil | simp [conj]) (by simp [conj, less_rfl]) ?_
    rintro ⟨⟩ _
    refine ⟨show 0 ≤ 0 by omega, _, _, _, rfl, rfl, rfl, ?_⟩
    refine goT hB1 [] 400 rfl (by first | exact conj_nil | simp [conj]) ?_
    refine run_retF hF1 hpin1 () trivial [] rfl rfl (by first | exact conj_nil | simp [conj]) rfl ?_
    simp [conj, less_rfl]
  | true =>
    obtain ⟨hok, h1, hown⟩ := hz.resolve_left (fun g => by cases g.1)|>.2
    obtain ⟨A, S, M, WW, hiv⟩ := IV.sim (p : Int) (b : Int) a n hok
    have hvv := VV.sim (b : Int) a n (fun j hj => ⟨hok j hj, (hf j hj).2.2.2⟩)
    obtain ⟨H, hH⟩ : ∃ H, H = (simA a n).hi (p : Int) (b : Int) := ⟨_, rfl⟩
    have hVH : VHi H := by
      rw [hH]
      refine hvv.valid (by omega) (by omega) (by omega) (by omega) ?_
      rw [← hbi]; exact Int.mul_emod_right _ _
    have htr : Tr H A S M := by rw [hH]; exact hiv.tr
    have hUn : H.unit = (p : Nat) := by rw [hH]; rfl
    have hBl : H.blocks = (b : Nat) := by rw [hH]; rfl
    have hnU : nU H = q := by
      unfold nU
      rw [hUn, hBl, ← hbi, Int.mul_ediv_cancel_left _ (by omega)]; rfl
    have hum := units_mul hVH
    have hvf : ∀ i, i < H.m → ∀ k, k < (H.op i).n → Fits .i64 ((H.op i).v k) := by
      rw [hH]
      exact fun i hi k hk => (hvv.o _ (hvv.mem hi)).1.v k hk
    have hlo := hvv.lo
    have hnc : H.nc ≤ 24 := by
      rw [hH]
      show (simA a n).cuts.length ≤ 24
      omega
    have h1 : HOK K1 H vo vc W := by rw [hH]; exact h1
    have hown : OWNX K K1 H vo vc W := by rw [hH]; exact hown
    have hm24 : H.m ≤ 24 := by
      rw [hH]
      show (simA a n).ops.length ≤ 24
      omega
    have hbox : hC H vo vc = .cells [i64 (p : Int), i64 (b : Int), .val vo, .val vc] 25 := by
      show SO.cells [i64 H.unit, i64 H.blocks, .val vo, .val vc] 25 = _
      rw [hUn, hBl]
    refine goT hB1 [(7, 55)] 400 rfl (by first | exact conj_nil | simp [conj]) ?_
    by_cases d0 : rd < 0
    · refine run_tt (by simpa using d0) ?_
      refine goT hB1 [] 400 rfl (by first | exact conj_nil | simp [conj]) ?_
      refine run_callCK (known_hck (K := K1)) named hB1 hK1 [] rfl rfl rfl rfl (by first | exact conj_nil | simp [conj]) (by simp [conj, less_rfl]) ?_
      rintro ⟨⟩ _
      refine ⟨show 0 ≤ 0 by omega, _, _, _, rfl, rfl, rfl, ?_⟩
      refine goT hB1 [] 400 rfl (by first | exact conj_nil | simp [conj]) ?_
      refine run_retF hF1 hpin1 () trivial [] rfl rfl (by first | exact conj_nil | simp [conj]) rfl ?_
      simp [conj, less_rfl]
    refine run_ff (by simpa using d0) ?_
    refine goT hB1 [] 400 rfl (by first | exact conj_nil | simp [conj]) ?_
    refine run_open hK1 60 h1.o (by decide) rfl (fun o2 => ?_)
    refine goT hB1 [(7, 62)] 400 rfl (by first | exact conj_nil | simp [conj]) ?_
    by_cases d1 : (H.m : Int) ≤ rd
    · refine run_tt (by simpa using d1) ?_
      refine run_close (.inl rfl) ?_
      refine goT hB1 [] 400 rfl (by first | exact conj_nil | simp [conj]) ?_
      refine run_callCK (known_hck (K := K1)) named hB1 hK1 [] rfl rfl rfl rfl (by first | exact conj_nil | simp [conj]) (by simp [conj, less_rfl]) ?_
      rintro ⟨⟩ _
      refine ⟨show 0 ≤ 0 by omega, _, _, _, rfl, rfl, rfl, ?_⟩
      refine goT hB1 [] 400 rfl (by first | exact conj_nil | simp [conj]) ?_
      refine run_retF hF1 hpin1 () trivial [] rfl rfl (by first | exact conj_nil | simp [conj]) rfl ?_
      simp [conj, less_rfl]
    refine run_ff (by simpa using d1) ?_
    obtain ⟨r, rfl⟩ : ∃ r : Nat, rd = r := ⟨rd.toNat, by omega⟩
    have hrm : r < H.m := by omega
    refine goT hB1 [] 400 rfl (by first | exact conj_nil | simp [conj]) ?_
    refine run_open hK1 66 h1.o (by decide) rfl (fun o3 => ?_)
    refine goT hB1 [(7, 71)] 400 rfl (by simp [conj, hrm]) ?_
    have er : 0 + ((r : Nat) : Int).toNat = r := by omega
    rw [er]
    skip
    by_cases d2 : (H.op r).k = 0
    rotate_left
    · refine run_tt (by simpa using d2) ?_
      refine run_close (.inl rfl) ?_
      refine run_close (.inl rfl) ?_
      refine goT hB1 [] 400 rfl (by first | exact conj_nil | simp [conj]) ?_
      refine run_callCK (known_hck (K := K1)) named hB1 hK1 [] rfl rfl rfl rfl (by first | exact conj_nil | simp [conj]) (by simp [conj, less_rfl]) ?_
      rintro ⟨⟩ _
      refine ⟨show 0 ≤ 0 by omega, _, _, _, rfl, rfl, rfl, ?_⟩
      refine goT hB1 [] 400 rfl (by first | exact conj_nil | simp [conj]) ?_
      refine run_retF hF1 hpin1 () trivial [] rfl rfl (by first | exact conj_nil | simp [conj]) rfl ?_
      simp [conj, less_rfl]
    refine run_ff (by simpa using d2) ?_
    refine goT hB1 [(7, 75)] 400 rfl (by first | exact conj_nil | simp [conj]) ?_
    by_cases d3 : bk < 0
    · refine run_tt (by simpa using d3) ?_
      refine run_close (.inl rfl) ?_
      refine run_close (.inl rfl) ?_
      refine goT hB1 [] 400 rfl (by first | exact conj_nil | simp [conj]) ?_
      refine run_callCK (known_hck (K := K1)) named hB1 hK1 [] rfl rfl rfl rfl (by first | exact conj_nil | simp [conj]) (by simp [conj, less_rfl]) ?_
      rintro ⟨⟩ _
      refine ⟨show 0 ≤ 0 by omega, _, _, _, rfl, rfl, rfl, ?_⟩
      refine goT hB1 [] 400 rfl (by first | exact conj_nil | simp [conj]) ?_
      refine run_retF hF1 hpin1 () trivial [] rfl rfl (by first | exact conj_nil | simp [conj]) rfl ?_
      simp [conj, less_rfl]
    refine run_ff (by simpa using d3) ?_
    refine goT hB1 [] 400 rfl (by first | exact conj_nil | simp [conj]) ?_
    refine run_open hK1 80 h1.o (by decide) rfl (fun o4 => ?_)
    refine goT hB1 [] 400 rfl (by simp [conj, hrm]) ?_
    rw [er]
    refine run_open hK1 84 (h1.v r hrm) (by decide) rfl (fun o5 => ?_)
    refine goT hB1 [(7, 86)] 400 rfl (by first | exact conj_nil | simp [conj]) ?_
    by_cases d4 : ((H.op r).n : Int) ≤ bk
    · refine run_tt (by simpa using d4) ?_
      refine run_close (.inl rfl) ?_
      refine run_close (.inl rfl) ?_
      refine run_close (.inl rfl) ?_
      refine run_close (.inl rfl) ?_
      refine goT hB1 [] 400 rfl (by first | exact conj_nil | simp [conj]) ?_
      refine run_callCK (known_hck (K := K1)) named hB1 hK1 [] rfl rfl rfl rfl (by first | exact conj_nil | simp [conj]) (by simp [conj, less_rfl]) ?_
      rintro ⟨⟩ _
      refine ⟨show 0 ≤ 0 by omega, _, _, _, rfl, rfl, rfl, ?_⟩
      refine goT hB1 [] 400 rfl (by first | exact conj_nil | simp [conj]) ?_
      refine run_retF hF1 hpin1 () trivial [] rfl rfl (by first | exact conj_nil | simp [conj]) rfl ?_
      simp [conj, less_rfl]
    refine run_ff (by simpa using d4) ?_
    obtain ⟨k, rfl⟩ : ∃ k : Nat, bk = k := ⟨bk.toNat, by omega⟩
    have hkn : k < (H.op r).n := by omega
    refine run_close (.inl rfl) ?_
    refine run_close (.inl rfl) ?_
    refine run_close (.inl rfl) ?_
    refine run_close (.inl rfl) ?_
    refine goT hB1 [] 400 rfl (by first | exact conj_nil | simp [conj]) ?_
    skip
    refine run_loop ?_
    refine run_to hpin1 [1] (nx' := 1) (rest' := []) (sl' := [(13, i64 ((0 : Nat) : Int)), (11, .ptr 0 0), (4, i64 (k : Int)), (3, i64 (r : Int)), (1, i64 (q : Int)), (0, i64 (p : Int))]) (hp' := [(0, hC H vo vc)]) rfl rfl (by simp [conj, less_rfl, hC, hUn, hBl]) ?_
    refine run_inv (ι := Nat) hpin1 (fun u => u ≤ q ∧ ∀ j, j < u → ∀ e, e ≤ H.nc → lenE H (j : Nat) e ≤ 12) (fun u => q - u) (fun u => [(13, i64 u), (11, .ptr 0 0), (4, i64 (k : Int)), (3, i64 (r : Int)), (1, i64 (q : Int)), (0, i64 (p : Int))]) (fun _ => []) (fun _ => [(0, hC H vo vc)]) 1 0 ⟨Nat.zero_le _, fun j hj => absurd hj (Nat.not_lt_zero _)⟩ [0] rfl rfl (by simp [conj, less_rfl]) ?_
    rintro u ⟨hu, hallu⟩ ih
    refine goT hB1 [(7, 91)] 400 rfl (by clear ih; first | exact conj_nil | simp [conj]) ?_
    by_cases hul : u < q
    · refine run_tt (by simpa using hul) ?_
      refine goT hB1 [] 400 rfl (by clear ih; first | exact conj_nil | simp [conj]) ?_
      have hub : ((u : Int) + 1) * H.unit ≤ H.blocks := by
        rw [← hum, hnU]; exact Int.mul_le_mul_of_nonneg_right (by omega) (by rw [hUn]; omega)
      refine run_callCK (mostR_hck h1 hVH (u : Int) (by omega) hub) named hB1 hK1 [] rfl rfl rfl rfl (by first | exact conj_nil | simp [conj]) (by clear ih; simp [conj, less_rfl]) ?_
      rintro ⟨⟩ _
      refine ⟨show 0 ≤ 0 by omega, _, _, _, rfl, rfl, rfl, ?_⟩
      refine goT hB1 [(7, 97)] 400 rfl (by clear ih; first | exact conj_nil | simp [conj]) ?_
      have hmx := mxE_le H (u : Int) 12 (H.nc + 1)
      by_cases q5 : 12 < mxE H (u : Int) (H.nc + 1)
      · clear ih
        refine run_tt (by simp; omega) ?_
        refine goT hB1 [] 400 rfl (by first | exact conj_nil | simp [conj]) ?_
        refine run_callCK (known_hck (K := K1)) named hB1 hK1 [] rfl rfl rfl rfl (by first | exact conj_nil | simp [conj]) (by simp [conj, less_rfl]) ?_
        rintro ⟨⟩ _
        refine ⟨show 0 ≤ 0 by omega, _, _, _, rfl, rfl, rfl, ?_⟩
        refine goT hB1 [] 400 rfl (by first | exact conj_nil | simp [conj]) ?_
        refine run_retF hF1 hpin1 () trivial [] rfl rfl (by first | exact conj_nil | simp [conj]) rfl ?_
        simp [conj, less_rfl]
      · have ih := ih (u + 1) ⟨by omega, fun j hj e he => by
          rcases Nat.eq_or_lt_of_le (Nat.le_of_lt_succ hj) with g | g
          · rw [g]; exact hmx.1 (by omega) e (by omega)
          · exact hallu j g e he⟩ (by omega)
        refine run_ff (by simp; omega) ?_
        refine goT hB1 [] 400 rfl (by clear ih; simp [conj, Fits_i64]; omega) ?_
        refine run_back ?_
        refine run_to hpin1 [0] rfl rfl ?_ ih
        clear ih
        simp [conj, less_rfl]
    clear ih
    have hue : u = q := by omega
    subst hue
    refine run_ff (by simp) ?_
    have hall : ∀ u', u' < nU H → SomeF H u' := fun u' hu' => htr.some hUn (by omega) hVH (fun e he => hallu u' (by omega) e he)
    refine goT hB1 [] 400 rfl (by first | exact conj_nil | simp [conj]) ?_
    refine run_loop ?_
    refine run_inv (ι := Nat × Int) hpin1 (fun x => x.1 ≤ H.m ∧ 1 ≤ x.2 ∧ x.2 ≤ 1152921504606846976 ∧ ∀ j, j < x.1 → ∀ q', q' < (H.op j).n → (H.op j).v q' < x.2) (fun x => H.m - x.1) (fun x => [(15, i64 (x.1 : Nat)), (14, i64 x.2), (11, .ptr 0 0), (4, i64 (k : Int)), (3, i64 (r : Int)), (1, i64 (u : Int)), (0, i64 (p : Int))]) (fun _ => []) (fun _ => [(0, hC H vo vc)]) 1 (0, 1) ⟨Nat.zero_le _, by decide, by decide, fun j hj => absurd hj (Nat.not_lt_zero _)⟩ [0] rfl rfl (by simp [conj, less_rfl]) ?_
    intro x
    obtain ⟨i, S1⟩ := x
    rintro ⟨hi, hS1, hS2, hall3⟩ ih
    dsimp only at hi hS1 hS2 hall3 ih ⊢
    refine goT hB1 [] 400 rfl (by clear ih; first | exact conj_nil | simp [conj]) ?_
    refine run_open hK1 101 h1.o (by decide) rfl (fun _ => ?_)
    refine goT hB1 [(7, 103)] 400 rfl (by clear ih; first | exact conj_nil | simp [conj]) ?_
    by_cases him : i < H.m
    · refine run_tt (by simpa using him) ?_
      have ei : 0 + ((i : Nat) : Int).toNat = i := by omega
      refine goT hB1 [] 400 rfl (by clear ih; first | exact conj_nil | simp [conj]) ?_
      refine run_loop ?_
      refine run_close (.inl rfl) ?_
      refine run_inv (ι := Nat × Int) hpin1 (fun x => x.1 ≤ (H.op i).n ∧ 1 ≤ x.2 ∧ x.2 ≤ 1152921504606846976 ∧ (∀ j, j < i → ∀ q', q' < (H.op j).n → (H.op j).v q' < x.2) ∧ ∀ q', q' < x.1 → (H.op i).v q' < x.2) (fun x => (H.op i).n - x.1) (fun x => [(16, i64 (x.1 : Nat)), (15, i64 (i : Int)), (14, i64 x.2), (11, .ptr 0 0), (4, i64 (k : Int)), (3, i64 (r : Int)), (1, i64 (u : Int)), (0, i64 (p : Int))]) (fun _ => []) (fun _ => [(0, hC H vo vc)]) 1 (0, S1) ⟨Nat.zero_le _, hS1, hS2, hall3, fun j hj => absurd hj (Nat.not_lt_zero _)⟩ [0] rfl rfl (by clear ih; simp [conj, less_rfl]) ?_
      intro x
      obtain ⟨q, S2⟩ := x
      rintro ⟨hq, hS1, hS2, hall3, hall4⟩ ih2
      dsimp only at hq hS1 hS2 hall3 hall4 ih2 ⊢
      refine goT hB1 [] 400 rfl (by clear ih ih2; first | exact conj_nil | simp [conj]) ?_
      refine run_open hK1 108 h1.o (by decide) rfl (fun _ => ?_)
      refine goT hB1 [] 400 rfl (by clear ih ih2; simp [conj, him]) ?_
      rw [ei]
      refine run_open hK1 112 (h1.v i him) (by decide) rfl (fun _ => ?_)
      refine goT hB1 [(7, 114)] 400 rfl (by clear ih ih2; first | exact conj_nil | simp [conj]) ?_
      by_cases hqn : q < (H.op i).n
      · refine run_tt (by simpa using hqn) ?_
        have eq : 0 + ((q : Nat) : Int).toNat = q := by omega
        have hfv := hvf i him q hqn
        have hn100 := h1.n i
        rw [Fits_i64] at hfv
        refine goT hB1 [] 400 rfl (by clear ih ih2; first | exact conj_nil | simp [conj]) ?_
        refine run_open hK1 118 h1.o (by decide) rfl (fun _ => ?_)
        refine goT hB1 [] 400 rfl (by clear ih ih2; simp [conj, him]) ?_
        rw [ei]
        refine run_open hK1 122 (h1.v i him) (by decide) rfl (fun _ => ?_)
        refine goT hB1 [(7, 127)] 400 rfl (by clear ih ih2; simp [conj, hqn]) ?_
        rw [eq]
        by_cases g1 : S2 ≤ (H.op i).v q
        · refine run_tt (by simpa using g1) ?_
          refine goT hB1 [] 400 rfl (by clear ih ih2; first | exact conj_nil | simp [conj]) ?_
          refine run_open hK1 130 h1.o (by decide) rfl (fun _ => ?_)
          refine goT hB1 [] 400 rfl (by clear ih ih2; simp [conj, him]) ?_
          rw [ei]
          refine run_open hK1 134 (h1.v i him) (by decide) rfl (fun _ => ?_)
          refine goT hB1 [(7, 138)] 400 rfl (by clear ih ih2; simp [conj, hqn]) ?_
          rw [eq]
          by_cases g2 : (H.op i).v q < 1152921504606846976
          · refine run_tt (by simpa using g2) ?_
            refine goT hB1 [] 400 rfl (by clear ih ih2; first | exact conj_nil | simp [conj]) ?_
            refine run_open hK1 141 h1.o (by decide) rfl (fun _ => ?_)
            refine goT hB1 [] 400 rfl (by clear ih ih2; simp [conj, him]) ?_
            rw [ei]
            refine run_open hK1 145 (h1.v i him) (by decide) rfl (fun _ => ?_)
            refine goT hB1 [] 400 rfl (by clear ih ih2; simp [conj, hqn, Fits_i64, eq]; omega) ?_
            rw [eq]
            refine run_open hK1 151 h1.o (by decide) rfl (fun _ => ?_)
            refine goT hB1 [] 400 rfl (by clear ih ih2; simp [conj, him]) ?_
            rw [ei]
            refine run_open hK1 155 (h1.v i him) (by decide) rfl (fun _ => ?_)
            refine goT hB1 [(7, 159)] 400 rfl (by clear ih ih2; simp [conj, hqn]) ?_
            rw [eq]
            refine run_ff (by simp; omega) ?_
            refine goT hB1 [] 400 rfl (by clear ih ih2; simp [conj, Fits_i64]; omega) ?_
            refine run_back ?_
            refine run_close (.inl rfl) ?_
            refine run_close (.inl rfl) ?_
            refine run_close (.inl rfl) ?_
            refine run_close (.inl rfl) ?_
            refine run_close (.inl rfl) ?_
            refine run_close (.inl rfl) ?_
            refine run_close (.inl rfl) ?_
            refine run_close (.inl rfl) ?_
            refine run_close (.inl rfl) ?_
            refine run_close (.inl rfl) ?_
            have ih2 := ih2 (q + 1, (H.op i).v q + 1) ⟨by dsimp only; omega, by dsimp only; omega, by dsimp only; omega, fun j hj q' hq' => by have := hall3 j hj q' hq'; dsimp only; omega, fun q' hq' => by
              rcases Nat.eq_or_lt_of_le (Nat.le_of_lt_succ hq') with g | g
              · rw [g]; dsimp only; omega
              · have := hall4 q' g; dsimp only; omega⟩ (by dsimp only; omega)
            clear ih
            refine run_to hpin1 [0] rfl rfl ?_ ih2
            clear ih2
            simp [conj, less_rfl]
          · refine run_ff (by simpa using g2) ?_
            refine goT hB1 [] 400 rfl (by clear ih ih2; first | exact conj_nil | simp [conj]) ?_
            refine run_open hK1 151 h1.o (by decide) rfl (fun _ => ?_)
            refine goT hB1 [] 400 rfl (by clear ih ih2; simp [conj, him]) ?_
            rw [ei]
            refine run_open hK1 155 (h1.v i him) (by decide) rfl (fun _ => ?_)
            refine goT hB1 [(7, 159)] 400 rfl (by clear ih ih2; simp [conj, hqn]) ?_
            rw [eq]
            refine run_tt (by simp; omega) ?_
            clear ih ih2
            refine run_close (.inl rfl) ?_
            refine run_close (.inl rfl) ?_
            refine run_close (.inl rfl) ?_
            refine run_close (.inl rfl) ?_
            refine run_close (.inl rfl) ?_
            refine run_close (.inl rfl) ?_
            refine run_close (.inl rfl) ?_
            refine run_close (.inl rfl) ?_
            refine goT hB1 [] 400 rfl (by first | exact conj_nil | simp [conj]) ?_
            refine run_callCK (known_hck (K := K1)) named hB1 hK1 [] rfl rfl rfl rfl (by first | exact conj_nil | simp [conj]) (by simp [conj, less_rfl]) ?_
            rintro ⟨⟩ _
            refine ⟨show 0 ≤ 0 by omega, _, _, _, rfl, rfl, rfl, ?_⟩
            refine goT hB1 [] 400 rfl (by first | exact conj_nil | simp [conj]) ?_
            refine run_retF hF1 hpin1 () trivial [] rfl rfl (by first | exact conj_nil | simp [conj]) rfl ?_
            simp [conj, less_rfl]
        · refine run_ff (by simpa using g1) ?_
          refine goT hB1 [] 400 rfl (by clear ih ih2; first | exact conj_nil | simp [conj]) ?_
          refine run_open hK1 151 h1.o (by decide) rfl (fun _ => ?_)
          refine goT hB1 [] 400 rfl (by clear ih ih2; simp [conj, him]) ?_
          rw [ei]
          refine run_open hK1 155 (h1.v i him) (by decide) rfl (fun _ => ?_)
          refine goT hB1 [(7, 159)] 400 rfl (by clear ih ih2; simp [conj, hqn]) ?_
          rw [eq]
          refine run_ff (by simp; omega) ?_
          refine goT hB1 [] 400 rfl (by clear ih ih2; simp [conj, Fits_i64]; omega) ?_
          refine run_back ?_
          refine run_close (.inl rfl) ?_
          refine run_close (.inl rfl) ?_
          refine run_close (.inl rfl) ?_
          refine run_close (.inl rfl) ?_
          refine run_close (.inl rfl) ?_
          refine run_close (.inl rfl) ?_
          have ih2 := ih2 (q + 1, S2) ⟨by dsimp only; omega, by dsimp only; omega, by dsimp only; omega, fun j hj q' hq' => by have := hall3 j hj q' hq'; dsimp only; omega, fun q' hq' => by
            rcases Nat.eq_or_lt_of_le (Nat.le_of_lt_succ hq') with g | g
            · rw [g]; dsimp only; omega
            · have := hall4 q' g; dsimp only; omega⟩ (by dsimp only; omega)
          clear ih
          refine run_to hpin1 [0] rfl rfl ?_ ih2
          clear ih2
          simp [conj, less_rfl]
      clear ih2
      have hqe : q = (H.op i).n := by omega
      subst hqe
      have ih := ih (i + 1, S2) ⟨by dsimp only; omega, by dsimp only; omega, by dsimp only; omega, fun j hj q' hq' => by
        rcases Nat.eq_or_lt_of_le (Nat.le_of_lt_succ hj) with g | g
        · subst g; exact hall4 q' hq'
        · exact hall3 j g q' hq'⟩ (by dsimp only; omega)
      dsimp only at ih
      refine run_ff (by simp) ?_
      refine goT hB1 [] 400 rfl (by clear ih; simp [conj, Fits_i64]; omega) ?_
      refine run_back ?_
      refine run_close (.inl rfl) ?_
      refine run_close (.inl rfl) ?_
      refine run_to hpin1 [0] rfl rfl ?_ ih
      clear ih
      simp [conj, less_rfl]
    clear ih
    have hie : i = H.m := by omega
    subst hie
    refine run_ff (by simp) ?_
    refine run_close (.inl rfl) ?_
    refine goT hB1 [] 400 rfl (by first | exact conj_nil | simp [conj]) ?_
    skip
    refine run_open hK1 162 h1.o (by decide) rfl (fun o9 => ?_)
    refine goT hB1 [] 400 rfl (by simp [conj, hrm]) ?_
    rw [er]
    refine run_close (.inl rfl) ?_
    obtain ⟨bl, Kx, w1, w2, w3, w4, w5, w6⟩ := hown
    obtain ⟨z0, c, room, z1, z2, z3, z4⟩ := w1 r hrm (by omega)
    have hsz : (H.op r).n ≤ c.size := by
      obtain ⟨u0, hu0, _⟩ := z4 ((H.op r).n - 1) (by omega)
      have := (Array.getElem?_eq_some_iff.1 hu0).1
      omega
    refine run_thaw hB1 hK1 (b := bl r) (c := c) (ty := 3) (m := (H.op r).n) (g := urow (H.op r).v) z3 hsz (fun q hq => z4 q hq) hpin1 (fun i s hi => (by cases hi)) (Nat.zero_le _) (fun hB2 hK2 hpin2 => ?_)
    refine run_know 166 3 rfl z1 z2 (Env.add_same _ _ _ _) ?_
    refine goT hB2 [] 400 rfl (by simp [conj]; omega) ?_
    have ek : 0 + ((k : Nat) : Int).toNat = k := by omega
    rw [ek]
    refine run_refreeze hB1 hK1 (b := bl r) (nx0 := 3) (by rw [z3]; simp) (hpin1.p 3 (Nat.zero_le _)) (.refl hB2 hK2) rfl (m := (H.op r).n) (ty := 3) (by omega) rfl (fun q hq => by rw [upd_at]; rfl) rfl rfl (fun c6 B6 K6 y1 y2 y3 y4 hF6 hp6 => ?_)
    have hF16 : Fz B K M0 B6 K6 := hF1.trans hF6 hK (fun _ h => h.elim) (fun x hx => by
      have hx : x = bl r := hx
      subst hx
      rcases hF1.new _ _ z3 with g | g
      · exact absurd z0 g
      · exact .inr g)
    have hpin6 : PinTo B6 0 := hpin1.fz hF6 hp6
    have h6 := hok_thaw h1 w1 w2 w3 w4 w5 w6 (k := k) (x := S1) hrm (by omega) hkn (fun b hb => (y4 b hb).trans (if_neg hb)) y1 (fun q hq => by have := y3 q hq; rw [upd_at] at this; exact this)
    have hVH6 := ch_valid H r k S1 hVH
    have hvf6 : ∀ i, i < H.m → ∀ q, q < ((chH H r k S1).op i).n → Fits .i64 (((chH H r k S1).op i).v q) := fun i hi q hq => by
      rw [ch_n] at hq
      rw [ch_v]
      split
      · rw [Fits_i64]; omega
      · exact hvf i hi q hq
    have hlen : ∀ u' e, u' < nU H → e ≤ H.nc → lenE H (u' : Nat) e ≤ 12 := fun u' e h1' h2' => hallu u' (by omega) e h2'
    have hop := hVH.ops r hrm
    unfold VOp at hop
    have hp1 : 1 ≤ p := by omega
    have hfk : 0 ≤ (H.op r).f + k := by omega
    have hfb : (H.op r).f + k < u * p := by
      have : (u : Int) * p = b := by rw [Int.mul_comm]; exact hbi
      have hop7 := hop.2.2.2.2.2.2 (by omega)
      rw [hBl] at hop7
      omega
    obtain ⟨U, hU⟩ : ∃ U : Nat, (U : Int) = ((H.op r).f + k) / (p : Int) := ⟨(((H.op r).f + k) / (p : Int)).toNat, Int.toNat_of_nonneg (Int.ediv_nonneg hfk (by omega))⟩
    have hUlt : U < nU H := by
      have : (U : Int) < (u : Int) := by rw [hU]; exact Int.ediv_lt_of_lt_mul (by omega) hfb
      omega
    have hUin : (U : Int) * H.unit ≤ (H.op r).f + k ∧ (H.op r).f + k < ((U : Int) + 1) * H.unit := by
      rw [hUn, hU]
      exact ⟨Int.ediv_mul_le _ (by omega), Int.lt_ediv_add_one_mul_self _ (by omega)⟩
    have hx : ∀ i, i < H.m → (H.op i).k = 1 → ∀ q, q < (H.op i).n → (H.op i).v q ≠ S1 := fun i hi _ q hq g => by
      have := hall3 i hi q hq
      omega
    refine run_callCK (explained_hck h6 hVH6 hnc hvf6) named hF6.ok hF6.le [] rfl rfl rfl rfl (by first | exact conj_nil | simp [conj]) (by simp [conj, less_rfl]; exact ⟨rfl, rfl⟩) ?_
    rintro (_ | ⟨be, ke⟩) hz
    · obtain ⟨u', e, q1, q2, q3⟩ := hz
      have := hlen u' e q1 q2
      rw [ch_lenE] at q3
      omega
    · obtain ⟨_, hex⟩ := hz
      obtain ⟨rfl, rfl⟩ := ch_ex hVH hrm d2 hkn hUlt hlen hUin (by omega) hx hall hex
      refine ⟨show 0 ≤ 0 by omega, _, _, _, rfl, rfl, rfl, ?_⟩
      refine goT hF6.ok [] 400 rfl (by first | exact conj_nil | simp [conj]) ?_
      have h6o : Froz K6 vo H.m 6 (orow H W) := by have := h6.o; rw [orow_ch] at this; exact this
      refine run_openBN hF6.le 0 2 h6o (by decide) rfl rfl (fun _ => rfl) (fun _ => rfl) hpin6 (Nat.zero_le _) (fun oz B7 hM7 hD7 hpin7 hkn7 => ?_)
      have hB7 : B7.ok := by intro x o hx; rw [hM7.w]; rw [hD7] at hx; exact hF6.ok x o hx
      have hK7 : ∀ x o, K6 x = some o → B7.D x = some o := fun x o e => by rw [hD7]; exact hF6.le x o e
      obtain ⟨bb, cc, tt, fz, n1, n2, n3⟩ := hkn7 (by omega)
      have hpw : (H.m + 1) ^ H.unit.toNat ≤ 1000000000000 := Nat.le_trans (Nat.le_trans (Nat.pow_le_pow_left (show H.m + 1 ≤ 25 by omega) _) (Nat.pow_le_pow_right (n := 25) (by decide) (show H.unit.toNat ≤ 4 by rw [hUn]; omega))) (by decide)
      have hfin := hcxq_shut (ψ := fun (z : Value × List (List Int) × (Nat → Value)) K' => VLs K' H.unit.toNat z ∧ FinS (chH H r k S1) U z.2.1) (r := fun z => .tup [.val z.1, i64 0]) (a0 := i64 H.unit) (a1 := i64 H.blocks) (a3 := .val vc) (xs := [i64 (U : Int)]) (ty := anyTy) n2 n3 rfl rfl rfl rfl (fun _ => rfl) (fun v hv => finals13_hcx sortLaw sortNone (vo := v) (vc := vc) (V := W) ⟨by rw [orow_ch]; exact hv, h6.c, h6.v, h6.m, h6.nc, h6.n⟩ hVH6 hnc U hUlt (fun e he => by rw [ch_lenE]; exact hlen U e hUlt he) hvf6 hpw)
      refine run_draw0 mixed (fun t => ?_)
      refine run_drawXq (M := modeJ) hK7 1 17 rfl named hB7 (sumOk_nil _) 11 ⟨13, [.agg [i64 H.unit, i64 H.blocks, .sq 0 oz 0 6 H.m .no, .val vc], i64 (U : Int)], [], [(0, .row oz H.m H.m 6 (orow H W) anyTy)], 1, .und, [], 1, [4]⟩ (vo, [], W) (fun β hβ => hβ _ _ n1) hfin rfl (fun z => by show 1 ≤ 1; omega) [] trivial rfl rfl (fun z => rfl) rfl (fun z => rfl) rfl rfl rfl (fun z => ?_) (fun z => ?_) ?_
      · repeat' (first | exact trivial | exact Or.inr (Or.inr rfl) | exact Or.inl rfl | exact Or.inr (Or.inl rfl) | apply And.intro)
      · have hop7 := hop.2.2.2.2.2.2 (by omega)
        rw [hBl] at hop7
        rw [er]
        simp [conj, less_rfl, SO.Live, ren_orow, Fits_i64, hrm, hU]
        (repeat' apply And.intro) <;> first | omega | exact .inl (by omega)
      rintro ⟨yv, Y, W2⟩ B8 K8 ⟨hz1, hz2⟩ hF8 hp8 t2
      dsimp only at hz1 hz2
      have hY : Y = [] := by
        cases Y with
        | nil => rfl
        | cons v l => exact absurd ⟨v, (hz2.2 v).1 List.mem_cons_self⟩ (ch_none hVH hrm d2 hkn (fun e he => hlen U e hUlt he) hUin (by omega) hx)
      subst hY
      have hz1 : Froz K8 yv 0 1 (vrow W2) := hz1.1
      refine run_drawE rfl ?_
      rw [er]
      refine goT hF8.ok [(7, 209)] 400 rfl (by have hop7 := hop.2.2.2.2.2.2 (by omega); rw [hBl] at hop7; simp [conj, Fits_i64, hrm]; omega) ?_
      rw [er]
      skip
      refine run_tt (by simp [hU]) ?_
      refine goT hF8.ok [] 400 rfl (by first | exact conj_nil | simp [conj]) ?_
      refine run_open hF8.le 216 hz1 (by decide) rfl (fun _ => ?_)
      refine goT hF8.ok [(7, 218)] 400 rfl (by first | exact conj_nil | simp [conj]) ?_
      refine run_tt (by simp) ?_
      refine run_close (.inl rfl) ?_
      refine run_close (.inl rfl) ?_
      obtain ⟨hFu, hMu⟩ := Fz.unpin hM7 hF8
      refine run_unpin hMu ?_
      have hFa := hF16.trans0 hFu hK fun _ h => h.elim
      have hpina : PinTo (B8.rep B6) 0 := hpin6.fz hFu rfl
      have hBu := hFu.ok
      have hKu := hFu.le
      refine goT hBu [] 400 rfl (by first | exact conj_nil | simp [conj]) ?_
      refine run_callCK (known_hck (K := K8)) named hBu hKu [] rfl rfl rfl rfl (by first | exact conj_nil | simp [conj]) (by simp [conj, less_rfl]) ?_
      rintro ⟨⟩ _
      refine ⟨show 0 ≤ 0 by omega, _, _, _, rfl, rfl, rfl, ?_⟩
      refine goT hBu [] 400 rfl (by first | exact conj_nil | simp [conj]) ?_
      refine run_retF hFa hpina () trivial [] rfl rfl (by first | exact conj_nil | simp [conj]) rfl ?_
      simp [conj, less_rfl]
end Sx
