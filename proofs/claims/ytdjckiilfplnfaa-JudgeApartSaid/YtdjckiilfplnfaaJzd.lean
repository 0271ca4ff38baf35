/- JudgeApart: its walk. Conditions: as each theorem says. Printed by gen_jzd.py. -/
import Derived.Test.YtdjckiilfplnfaaJza
import Derived.Test.YtdjckiilfplnfaaJzq
set_option linter.unusedSimpArgs false
set_option linter.unusedVariables false
namespace Sx
open Go Go.Proofs
set_option maxRecDepth 100000
set_option pp.deepTerms true
set_option pp.maxSteps 10000000
/-- What JudgeApart keeps. -/
def kpU (H : Hi) (u : Int) (i : Nat) : Bool := decide ((H.op i).k = 2) || (decide ((H.op i).f < (u + 1) * H.unit) && decide (u * H.unit < (H.op i).f + (H.op i).n))
def orowS (H : Hi) (V : Nat → Value) (L : List Nat) : Nat → Nat → SV := fun j k => orow H V (L.getD j 0) k
theorem ren_orowS (nx : Nat) (sg : List Nat) (H : Hi) (V : Nat → Value) (L : List Nat) (i k : Nat) : ren nx sg (orowS H V L i k) = orowS H V L i k := ren_orow nx sg H V _ k
theorem renR_orowS (nx : Nat) (sg : List Nat) (H : Hi) (V : Nat → Value) (L : List Nat) : renR nx sg (orowS H V L) = orowS H V L := by funext i k; exact ren_orowS nx sg H V L i k
theorem app_orowS (H : Hi) (V : Nat → Value) (L : List Nat) (i a c : Nat) (ha : a < L.length + 1) (hc : c < 6) :
    Less (orowS H V (L ++ [i]) a c) (appF (orowS H V L) L.length (fun j k => [i64 (H.op i).k, i64 (H.op i).f, .val (V i), i64 (H.op i).b, i64 (H.op i).e, .sb (H.op i).fo][j * 6 + k]?.getD SV.und) a c) := by
  refine Less.of ?_
  unfold appF
  by_cases h : a < L.length
  · have hb : Nat.blt a L.length = true := by simpa [Nat.blt_eq] using h
    rw [hb, cond_true]
    unfold orowS
    rw [getD_app_l _ _ _ h]
  · have : a = L.length := by omega
    subst this
    have hb : Nat.blt L.length L.length = false := by
      cases hq : Nat.blt L.length L.length with
      | false => rfl
      | true => rw [Nat.blt_eq] at hq; omega
    rw [hb, cond_false, Nat.sub_self]
    unfold orowS
    rw [getD_app_r _ _ _ (Nat.le_refl _), Nat.sub_self]
    match c, hc with
    | 0, _ | 1, _ | 2, _ | 3, _ | 4, _ | 5, _ => rfl
set_option maxHeartbeats 8000000 in
theorem judgeApart_hcx {K : Kn} {H : Hi} {vo vc : Value} {V : Nat → Value} (h : ARG K H vo vc V) (u : Int) (hu : Fits .i64 u) :
    HCX Try.prog K M0 9 [hA H vo vc, i64 u] [] [] 0 (fun (_ : Unit) _ => True) (fun _ => ⟨.tt, [], 0⟩) := by
  obtain ⟨b, hb⟩ := small_b H
  obtain ⟨bv, hbv⟩ := valid_b H
  refine hcx_of_run Try.func9 rfl (fun B hB hK hpin => ?_)
  have hF0 : Fz B K M0 B K := .refl hB hK
  refine goT hB [] 400 rfl (by first | exact conj_nil | simp [conj]) ?_
  refine run_callCK (small_hck h.toHOK0 b hb) named hB hK [] rfl rfl rfl rfl (by first | exact conj_nil | simp [conj]) (by simp [conj, less_rfl]) ?_
  rintro ⟨⟩ _
  refine ⟨show 0 ≤ 0 by omega, _, _, _, rfl, rfl, rfl, ?_⟩
  refine goT hB [(9, 14)] 400 rfl (by first | exact conj_nil | simp [conj]) ?_
  by_cases hs : Small H
  rotate_left
  · have hbf : b = false := by
      cases e : b with
      | false => rfl
      | true => exact absurd (hb.1 e) hs
    rw [hbf]
    refine run_tt rfl ?_
    refine goT hB [] 400 rfl (by first | exact conj_nil | simp [conj]) ?_
    refine run_callCK (known_hck (K := K)) named hB hK [] rfl rfl rfl rfl (by first | exact conj_nil | simp [conj]) (by simp [conj, less_rfl]) ?_
    rintro ⟨⟩ _
    refine ⟨show 0 ≤ 0 by omega, _, _, _, rfl, rfl, rfl, ?_⟩
    refine goT hB [] 400 rfl (by first | exact conj_nil | simp [conj]) ?_
    refine run_retF hF0 hpin () trivial [] rfl rfl (by first | exact conj_nil | simp [conj]) rfl ?_
    simp [conj, less_rfl]
  have hbt : b = true := hb.2 hs
  rw [hbt]
  have h' := hs.ok h.toHOK0
  refine run_ff rfl ?_
  refine goT hB [] 400 rfl (by first | exact conj_nil | simp [conj]) ?_
  refine run_callCK (validR_hck h' h.u h.f bv hbv) named hB hK [] rfl rfl rfl rfl (by first | exact conj_nil | simp [conj]) (by simp [conj, less_rfl]) ?_
  rintro ⟨⟩ _
  refine ⟨show 0 ≤ 0 by omega, _, _, _, rfl, rfl, rfl, ?_⟩
  refine goT hB [(9, 18)] 400 rfl (by first | exact conj_nil | simp [conj]) ?_
  by_cases hv : VHi H
  rotate_left
  · have hbf : bv = false := by
      cases e : bv with
      | false => rfl
      | true => exact absurd (hbv.1 e) hv
    rw [hbf]
    refine run_tt rfl ?_
    refine goT hB [] 400 rfl (by first | exact conj_nil | simp [conj]) ?_
    refine run_callCK (known_hck (K := K)) named hB hK [] rfl rfl rfl rfl (by first | exact conj_nil | simp [conj]) (by simp [conj, less_rfl]) ?_
    rintro ⟨⟩ _
    refine ⟨show 0 ≤ 0 by omega, _, _, _, rfl, rfl, rfl, ?_⟩
    refine goT hB [] 400 rfl (by first | exact conj_nil | simp [conj]) ?_
    refine run_retF hF0 hpin () trivial [] rfl rfl (by first | exact conj_nil | simp [conj]) rfl ?_
    simp [conj, less_rfl]
  have hbvt : bv = true := hbv.2 hv
  rw [hbvt]
  have hu1 := hv.u1
  have hu8 := hv.u8
  have hb1 := hv.b1
  have hb2 := hv.b2
  have hum := units_mul hv
  have hnU := units_le hv
  have hm14 := hs.m
  have hdiv : H.blocks / H.unit = (nU H : Int) := by
    unfold nU
    rw [Int.toNat_of_nonneg (Int.ediv_nonneg (by omega) (by omega))]
  refine run_ff rfl ?_
  refine goT hB [(9, 22)] 400 rfl (by first | exact conj_nil | simp [conj]) ?_
  by_cases q1 : u < 0
  · refine run_tt (by simpa using q1) ?_
    refine goT hB [] 400 rfl (by first | exact conj_nil | simp [conj]) ?_
    refine run_callCK (known_hck (K := K)) named hB hK [] rfl rfl rfl rfl (by first | exact conj_nil | simp [conj]) (by simp [conj, less_rfl]) ?_
    rintro ⟨⟩ _
    refine ⟨show 0 ≤ 0 by omega, _, _, _, rfl, rfl, rfl, ?_⟩
    refine goT hB [] 400 rfl (by first | exact conj_nil | simp [conj]) ?_
    refine run_retF hF0 hpin () trivial [] rfl rfl (by first | exact conj_nil | simp [conj]) rfl ?_
    simp [conj, less_rfl]
  refine run_ff (by simpa using q1) ?_
  refine goT hB [(9, 31)] 400 rfl (by simp [conj, Fits_i64, hdiv]; omega) ?_
  rw [hdiv]
  by_cases q2 : (nU H : Int) ≤ u
  · refine run_tt (by simpa using q2) ?_
    refine goT hB [] 400 rfl (by first | exact conj_nil | simp [conj]) ?_
    refine run_callCK (known_hck (K := K)) named hB hK [] rfl rfl rfl rfl (by first | exact conj_nil | simp [conj]) (by simp [conj, less_rfl]) ?_
    rintro ⟨⟩ _
    refine ⟨show 0 ≤ 0 by omega, _, _, _, rfl, rfl, rfl, ?_⟩
    refine goT hB [] 400 rfl (by first | exact conj_nil | simp [conj]) ?_
    refine run_retF hF0 hpin () trivial [] rfl rfl (by first | exact conj_nil | simp [conj]) rfl ?_
    simp [conj, less_rfl]
  refine run_ff (by simp; omega) ?_
  obtain ⟨n, rfl⟩ : ∃ n : Nat, u = n := ⟨u.toNat, by omega⟩
  have hn : n < nU H := by omega
  have hlen := (hs.v hv).2 n hn
  have hub : ((n : Int) + 1) * H.unit ≤ H.blocks := by
    rw [← hum]; exact Int.mul_le_mul_of_nonneg_right (by omega) (by omega)
  have hlo : 0 ≤ (n : Int) * H.unit := Int.mul_nonneg (by omega) (by omega)
  have hhi : ((n : Int) + 1) * H.unit = n * H.unit + H.unit := by rw [Int.add_mul, Int.one_mul]
  have hpw := pow_small hs hv
  have hnc := hs.nc
  refine goT hB [] 400 rfl (by first | exact conj_nil | simp [conj]) ?_
  refine run_loop ?_
  obtain ⟨kp, hkp⟩ : ∃ kp, kp = kpU H (n : Int) := ⟨_, rfl⟩
  refine run_inv (ι := Nat) hpin (fun i => i ≤ H.m) (fun i => H.m - i) (fun i => [(6, i64 i), (5, .ptr 1 0), (2, .ptr 0 0), (1, i64 (n : Int))]) (fun _ => [])
    (fun i => [(2, .row 0 ((List.range i).filter kp).length ((List.range i).filter kp).length 6 (orowS H V ((List.range i).filter kp)) 39), (1, .cells [i64 H.unit, i64 H.blocks, .sq 2 0 0 6 ((List.range i).filter kp).length .own, .val vc] 25), (0, hC H vo vc)]) 3 0 (Nat.zero_le _) [0, 1, 2] rfl rfl (by simp [conj, less_rfl, ren_orowS, renR_orowS]) ?_
  rintro i hi ih
  refine goT hB [] 400 rfl (by clear ih; first | exact conj_nil | simp [conj]) ?_
  refine run_open hK 38 h'.o (by decide) rfl (fun o1 => ?_)
  refine goT hB [(9, 40)] 400 rfl (by clear ih; first | exact conj_nil | simp [conj]) ?_
  refine run_close (.inl rfl) ?_
  by_cases hin : i < H.m
  · have e0 : 0 + ((i : Nat) : Int).toNat = i := by omega
    have ih := ih (i + 1) (by omega) (by omega)
    have hlenL : ((List.range i).filter kp).length ≤ i := Nat.le_trans (List.length_filter_le _ _) (by rw [List.length_range]; omega)
    rw [List.range_succ, List.filter_append] at ih
    have hkpi : kp i = (decide ((H.op i).k = 2) || (decide ((H.op i).f < ((n : Int) + 1) * H.unit) && decide ((n : Int) * H.unit < (H.op i).f + (H.op i).n))) := by rw [hkp]; rfl
    obtain ⟨⟨k1, k2, k3, k4⟩, k5, k6, k7, k8, k9, k10⟩ := hv.ops i hin
    have hni := h'.n i
    refine run_tt (by simpa using hin) ?_
    refine goT hB [] 400 rfl (by clear ih; first | exact conj_nil | simp [conj]) ?_
    refine run_open hK 44 h'.o (by decide) rfl (fun o2 => ?_)
    refine goT hB [(9, 50)] 400 rfl (by clear ih; simp [conj, hin]) ?_
    rw [e0]
    refine run_close (.inl rfl) ?_
    by_cases c1 : (H.op i).k = 2
    · have hk : kp i = true := by rw [hkpi]; simp [c1]
      refine run_tt (by simpa using c1) ?_
      rw [show [i].filter kp = [i] by simp [hk], List.length_append, List.length_singleton] at ih
      refine goT hB [] 400 rfl (by clear ih; simp [conj, Fits_i64]; omega) ?_
      refine run_back ?_
      skip
      refine run_to hpin [0, 1, 7] rfl rfl ?_ ih
      clear ih
      simp [conj, less_rfl, ren_orowS, renR_orowS]
      exact fun a c ha hc => app_orowS H V ((List.range i).filter kp) i a c ha hc
    · have c1' := k10 c1
      refine run_ff (by simpa using c1) ?_
      refine goT hB [(9, 59)] 400 rfl (by clear ih; simp [conj, Fits_i64]; omega) ?_
      by_cases c2 : (H.op i).f < ((n : Int) + 1) * H.unit
      · refine run_tt (by simpa using c2) ?_
        refine goT hB [] 400 rfl (by clear ih; simp [conj, Fits_i64]) ?_
        refine run_open hK 64 (h'.v i hin) (by decide) rfl (fun o3 => ?_)
        refine goT hB [(9, 71)] 400 rfl (by clear ih; simp [conj, Fits_i64]; omega) ?_
        refine run_close (.inl rfl) ?_
        by_cases c3 : (n : Int) * H.unit < (H.op i).f + (H.op i).n
        · have hk : kp i = true := by rw [hkpi, decide_eq_true c2, decide_eq_true c3]; simp
          refine run_tt (by simpa using c3) ?_
          rw [show [i].filter kp = [i] by simp [hk], List.length_append, List.length_singleton] at ih
          refine goT hB [] 400 rfl (by clear ih; simp [conj, Fits_i64]; omega) ?_
          refine run_back ?_
          skip
          refine run_to hpin [0, 1, 8] rfl rfl ?_ ih
          clear ih
          simp [conj, less_rfl, ren_orowS, renR_orowS]
          exact fun a c ha hc => app_orowS H V ((List.range i).filter kp) i a c ha hc
        · have hk : kp i = false := by rw [hkpi, decide_eq_false c1, decide_eq_false c3]; simp
          refine run_ff (by simpa using c3) ?_
          rw [show [i].filter kp = [] by simp [hk], List.append_nil] at ih
          refine goT hB [] 400 rfl (by clear ih; simp [conj, Fits_i64]; omega) ?_
          refine run_back ?_
          refine run_to hpin [0, 1, 2] rfl rfl ?_ ih
          clear ih
          simp [conj, less_rfl, ren_orowS, renR_orowS]
      · have hk : kp i = false := by rw [hkpi, decide_eq_false c1, decide_eq_false c2]; rfl
        refine run_ff (by simpa using c2) ?_
        rw [show [i].filter kp = [] by simp [hk], List.append_nil] at ih
        refine goT hB [] 400 rfl (by clear ih; simp [conj, Fits_i64]; omega) ?_
        refine run_back ?_
        refine run_to hpin [0, 1, 2] rfl rfl ?_ ih
        clear ih
        simp [conj, less_rfl, ren_orowS, renR_orowS]
  · clear ih
    have : i = H.m := by omega
    subst this
    refine run_ff (by simp) ?_
    refine run_freezeB hB hK 1 2 (L := 2) (off := 0) (sz := 6) (m := (keptL H kp).length) (m' := (keptL H kp).length) (cap := (keptL H kp).length) (ap := .own) (g := orowS H V (keptL H kp)) rfl rfl rfl rfl (Nat.le_refl _) (fun a c _ _ => orow_closed _ _ _ c) rfl (fun _ => rfl) (fun _ => rfl) (fun ov B1 K1 hov hF1 hp1 => ?_)
    have hpin1 := hpin.fz hF1 hp1
    have h1 := h'.mono fun b o e => hF1.old b o e (fun h => h)
    have hkm : (keptL H kp).length ≤ H.m := Nat.le_trans (List.length_filter_le _ _) (by rw [List.length_range]; exact Nat.le_refl _)
    have ho : HOK K1 (subH H kp) ov vc (fun j => V (gS H kp j)) := ⟨hov, h1.c, fun j hj => h1.v _ (gS_lt hj).1, by show (keptL H kp).length ≤ 100; omega, h1.nc, fun j => h1.n _⟩
    have hvo := sub_valid hv kp
    obtain ⟨hsl, hsf⟩ := sub_same hv kp (n : Int) (fun e he => by have := hlen e he; omega) (fun i hi q => by rw [hkp]; unfold kpU; simp [q]) (fun i hi q => by
      unfold isP at q
      rw [Bool.and_eq_true, decide_eq_true_iff] at q
      have q := q.2
      have hpA : pA H (n : Int) i = max ((n : Int) * H.unit) (H.op i).f := rfl
      have hpB : pB H (n : Int) i = min (((n : Int) + 1) * H.unit) ((H.op i).f + (H.op i).n) := rfl
      rw [hkp]
      unfold kpU
      rw [decide_eq_true (show (H.op i).f < ((n : Int) + 1) * H.unit by omega), decide_eq_true (show (n : Int) * H.unit < (H.op i).f + (H.op i).n by omega)]
      simp)
    have hvfo : ∀ j, j < (subH H kp).m → ∀ k, k < ((subH H kp).op j).n → Fits .i64 (((subH H kp).op j).v k) := fun j hj k hk => h.vf _ (gS_lt hj).1 k hk
    have hpwo : ((subH H kp).m + 1) ^ (subH H kp).unit.toNat ≤ 15 ^ 8 := Nat.le_trans (Nat.pow_le_pow_left (by show (keptL H kp).length + 1 ≤ H.m + 1; omega) _) hpw
    refine goT hF1.ok [] 400 rfl (by first | exact conj_nil | simp [conj]) ?_
    refine run_callX (finals13_hcx sortLaw sortNone h1 hv (by omega) n hn (fun e he => by have := hlen e he; omega) h.vf (Nat.le_trans hpw (by decide))) named hF1.ok hF1.le (fun _ h => h.elim) (.inr fun _ h => h) [] rfl rfl rfl rfl (by first | exact conj_nil | simp [conj]) (by simp [conj, less_rfl]) ?_
    rintro ⟨yv, Y, W⟩ B2 K2 ⟨hz1, hz2⟩ hF2 hp2
    dsimp only at hz1 hz2
    have hF2' := hF1.trans0 hF2 hK fun _ h => h.elim
    have hpin2 := hpin1.fz hF2 hp2
    have ho2 := ho.mono fun b o e => hF2.old b o e (fun h => h)
    refine ⟨show 0 ≤ 0 by omega, _, _, _, rfl, rfl, rfl, ?_⟩
    refine goT hF2.ok [] 400 rfl (by first | exact conj_nil | simp [conj]) ?_
    refine run_callX (finals13_hcx sortLaw sortNone ho2 hvo (by show H.nc ≤ 24; omega) n hn (fun e he => by have := hlen e he; rw [hsl]; omega) hvfo (Nat.le_trans hpwo (by decide))) named hF2.ok hF2.le (fun _ h => h.elim) (.inr fun _ h => h) [] rfl rfl rfl rfl (by first | exact conj_nil | simp [conj]) (by simp [conj, less_rfl, subH]) ?_
    rintro ⟨yv2, Y2, W2⟩ B3 K3 ⟨hy1, hy2⟩ hF3 hp3
    dsimp only at hy1 hy2
    have hYY : Y2 = Y := sorted_unique Y2 Y hy2.1 hz2.1 fun v => (hy2.2 v).trans ((hsf (H.nc + 1) (Nat.le_refl _) v).trans (hz2.2 v).symm)
    subst hYY
    have hF3' := hF2'.trans0 hF3 hK fun _ h => h.elim
    have hpin3 := hpin2.fz hF3 hp3
    have hcnt : Y2.length ≤ 15 ^ 8 := Nat.le_trans (vok_count hv Y2 (ltV_nodup hz2.1) fun v hx => fs_vok hv (fun e he => by have := hlen e he; omega) _ (Nat.le_refl _) v ((hz2.2 v).1 hx)) hpw
    refine ⟨show 0 ≤ 0 by omega, _, _, _, rfl, rfl, rfl, ?_⟩
    refine goT hF3.ok [] 400 rfl (by first | exact conj_nil | simp [conj]) ?_
    refine run_callCK (sameE_hck yv yv2 W W2 Y2 H.unit.toNat (by omega) (by omega) ⟨hz1.1.fz hF3, fun i hi => (hz1.2 i hi).fz hF3⟩ hy1 (Nat.le_trans hcnt (by decide))) named hF3.ok hF3.le [] rfl rfl rfl rfl (by first | exact conj_nil | simp [conj]) (by simp [conj, less_rfl]) ?_
    rintro ⟨⟩ _
    refine ⟨show 0 ≤ 0 by omega, _, _, _, rfl, rfl, rfl, ?_⟩
    refine goT hF3.ok [] 400 rfl (by first | exact conj_nil | simp [conj]) ?_
    refine run_callCK (known_hck (K := K3)) named hF3.ok hF3.le [] rfl rfl rfl rfl (by first | exact conj_nil | simp [conj]) (by simp [conj, less_rfl]) ?_
    rintro ⟨⟩ _
    refine ⟨show 0 ≤ 0 by omega, _, _, _, rfl, rfl, rfl, ?_⟩
    refine goT hF3.ok [] 400 rfl (by first | exact conj_nil | simp [conj]) ?_
    refine run_retF hF3' hpin3 () trivial [] rfl rfl (by first | exact conj_nil | simp [conj]) rfl ?_
    simp [conj, less_rfl]
end Sx
