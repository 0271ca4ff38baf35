/- JudgeWeaker: its walk. Conditions: as each theorem says. Printed by gen_jze.py. -/
import Derived.Test.YtdjckiilfplnfaaJzd
import Derived.Test.YtdjckiilfplnfaaJzr
set_option linter.unusedSimpArgs false
set_option linter.unusedVariables false
namespace Sx
open Go Go.Proofs
set_option maxRecDepth 100000
set_option pp.deepTerms true
set_option pp.maxSteps 10000000
theorem kept_ne (H : Hi) (a : Nat) (ha : a < H.m) : keptL H (fun i => decide (i ≠ a)) = List.range a ++ (List.range (H.m - (a + 1))).map fun d => a + 1 + d := by
  have key : ∀ d, (List.range (a + 1 + d)).filter (fun i => decide (i ≠ a)) = List.range a ++ (List.range d).map fun d => a + 1 + d := fun d => by
    induction d with
    | zero =>
      rw [Nat.add_zero, List.range_succ, List.filter_append]
      have h1 : (List.range a).filter (fun i => decide (i ≠ a)) = List.range a := List.filter_eq_self.2 fun i hi => by
        have := List.mem_range.1 hi
        rw [decide_eq_true_iff]; omega
      rw [h1]
      simp
    | succ d ih =>
      rw [← Nat.add_assoc, List.range_succ, List.filter_append, ih, List.range_succ, List.map_append, ← List.append_assoc]
      congr 1
      have : decide (a + 1 + d ≠ a) = true := by rw [decide_eq_true_iff]; omega
      rw [List.filter_cons, this]
      rfl
  have := key (H.m - (a + 1))
  rw [show a + 1 + (H.m - (a + 1)) = H.m by omega] at this
  exact this
theorem kept_row (H : Hi) (V : Nat → Value) (a : Nat) (ha : a < H.m) {L : List Nat} (hkl : L = List.range a ++ (List.range (H.m - (a + 1))).map fun d => a + 1 + d) {i k : Nat} (hi : i < a + (H.m - (a + 1))) :
    Less (orowS H V L i k) (appF (appF (fun _ _ => SV.und) 0 (orow H V)) a (fun i k => orow H V (a + 1 + i) k) i k) := by
  refine Less.of ?_
  unfold appF orowS
  rw [hkl]
  by_cases h : i < a
  · have hb : Nat.blt i a = true := by simpa [Nat.blt_eq] using h
    have hb0 : Nat.blt i 0 = false := rfl
    rw [hb, cond_true, hb0, cond_false, getD_app_l _ _ _ (by simpa using h), Nat.sub_zero]
    congr 1
    simp [List.getD_eq_getElem?_getD, h]
  · have hb : Nat.blt i a = false := by
      cases e : Nat.blt i a with
      | false => rfl
      | true => exact absurd (Nat.blt_eq.mp e) h
    rw [hb, cond_false, getD_app_r _ _ _ (by simpa using h)]
    congr 1
    have : i - a < H.m - (a + 1) := by omega
    simp [List.getD_eq_getElem?_getD, this]
theorem mod_row (H : Hi) (V : Nat → Value) (a : Nat) (b' e' : Int) {i k : Nat} (hk : k < 6) :
    Less (orow (modH H a { H.op a with b := b', e := e' }) V i k) (updF (appF (fun _ _ => SV.und) 0 fun i k => orow H V i k) a 0 (SV.agg [i64 (H.op a).k, i64 (H.op a).f, SV.val (V a), i64 b', i64 e', SV.sb (H.op a).fo]).cells i k) := by
  refine Less.of ?_
  unfold updF appF
  have hb0 : Nat.blt i 0 = false := rfl
  rw [hb0, cond_false, Nat.sub_zero]
  by_cases h : i = a
  · subst h
    rw [if_pos ⟨rfl, Nat.zero_le _, by show k < 0 + 6; omega⟩]
    show orow (modH H i _) V i k = [i64 (H.op i).k, i64 (H.op i).f, SV.val (V i), i64 b', i64 e', SV.sb (H.op i).fo].getD (k - 0) .und
    unfold orow modH
    simp only [if_true]
    match k, hk with
    | 0, _ | 1, _ | 2, _ | 3, _ | 4, _ | 5, _ => rfl
  · rw [if_neg (fun g => h g.1)]
    unfold orow modH
    simp only [if_neg h]
    rfl
theorem orow_storable (H : Hi) (V : Nat → Value) (i k : Nat) : storable (orow H V i k) = true := by unfold orow; split <;> rfl
set_option maxHeartbeats 16000000 in
theorem judgeWeaker_hcx {K : Kn} {H : Hi} {vo vc : Value} {V : Nat → Value} (h : ARG K H vo vc V) (x1 x2 x3 : Int) (hx1 : Fits .i64 x1) (hx2 : Fits .i64 x2) (hx3 : Fits .i64 x3) :
    HCX Try.prog K M0 8 [hA H vo vc, i64 x1, i64 x2, i64 x3] [] [] 0 (fun (_ : Unit) _ => True) (fun _ => ⟨.tt, [], 0⟩) := by
  obtain ⟨b, hb⟩ := small_b H
  obtain ⟨bv, hbv⟩ := valid_b H
  refine hcx_of_run Try.func8 rfl (fun B hB hK hpin => ?_)
  have hF0 : Fz B K M0 B K := .refl hB hK
  refine goT hB [] 400 rfl (by first | exact conj_nil | simp [conj]) ?_
  refine run_callCK (small_hck h.toHOK0 b hb) named hB hK [] rfl rfl rfl rfl (by first | exact conj_nil | simp [conj]) (by simp [conj, less_rfl]) ?_
  rintro ⟨⟩ _
  refine ⟨show 0 ≤ 0 by omega, _, _, _, rfl, rfl, rfl, ?_⟩
  refine goT hB [(8, 24)] 400 rfl (by first | exact conj_nil | simp [conj]) ?_
  by_cases hs : Small H
  rotate_left
  · have hbf : b = false := by
      cases e : b with
      | false => rfl
      | true => exact absurd (hb.1 e) hs
    rw [hbf]
    refine run_tt rfl ?_
    refine goT hB [] 400 rfl (by first | exact conj_nil | simp [conj]) ?_
    refine run_callCK (known_hck (K := K)) named hB hK [] rfl rfl rfl rfl (by first | exact conj_nil | simp [conj]) (by simp [conj, less_rfl]) ?_
    rintro ⟨⟩ _
    refine ⟨show 0 ≤ 0 by omega, _, _, _, rfl, rfl, rfl, ?_⟩
    refine goT hB [] 400 rfl (by first | exact conj_nil | simp [conj]) ?_
    refine run_retF hF0 hpin () trivial [] rfl rfl (by first | exact conj_nil | simp [conj]) rfl ?_
    simp [conj, less_rfl]
  have hbt : b = true := hb.2 hs
  rw [hbt]
  have h' := hs.ok h.toHOK0
  refine run_ff rfl ?_
  refine goT hB [] 400 rfl (by first | exact conj_nil | simp [conj]) ?_
  refine run_callCK (validR_hck h' h.u h.f bv hbv) named hB hK [] rfl rfl rfl rfl (by first | exact conj_nil | simp [conj]) (by simp [conj, less_rfl]) ?_
  rintro ⟨⟩ _
  refine ⟨show 0 ≤ 0 by omega, _, _, _, rfl, rfl, rfl, ?_⟩
  refine goT hB [(8, 28)] 400 rfl (by first | exact conj_nil | simp [conj]) ?_
  by_cases hv : VHi H
  rotate_left
  · have hbf : bv = false := by
      cases e : bv with
      | false => rfl
      | true => exact absurd (hbv.1 e) hv
    rw [hbf]
    refine run_tt rfl ?_
    refine goT hB [] 400 rfl (by first | exact conj_nil | simp [conj]) ?_
    refine run_callCK (known_hck (K := K)) named hB hK [] rfl rfl rfl rfl (by first | exact conj_nil | simp [conj]) (by simp [conj, less_rfl]) ?_
    rintro ⟨⟩ _
    refine ⟨show 0 ≤ 0 by omega, _, _, _, rfl, rfl, rfl, ?_⟩
    refine goT hB [] 400 rfl (by first | exact conj_nil | simp [conj]) ?_
    refine run_retF hF0 hpin () trivial [] rfl rfl (by first | exact conj_nil | simp [conj]) rfl ?_
    simp [conj, less_rfl]
  have hbvt : bv = true := hbv.2 hv
  rw [hbvt]
  have hu1 := hv.u1
  have hu8 := hv.u8
  have hb1 := hv.b1
  have hb2 := hv.b2
  have hm14 := hs.m
  have hnc3 := hs.nc
  rw [Fits_i64] at hx1 hx2 hx3
  refine run_ff rfl ?_
  refine goT hB [(8, 32)] 400 rfl (by simp [conj]) ?_
  by_cases q1 : x1 < 0
  · refine run_tt (by simp; omega) ?_
    refine goT hB [] 400 rfl (by first | exact conj_nil | simp [conj]) ?_
    refine run_callCK (known_hck (K := K)) named hB hK [] rfl rfl rfl rfl (by first | exact conj_nil | simp [conj]) (by simp [conj, less_rfl]) ?_
    rintro ⟨⟩ _
    refine ⟨show 0 ≤ 0 by omega, _, _, _, rfl, rfl, rfl, ?_⟩
    refine goT hB [] 400 rfl (by first | exact conj_nil | simp [conj]) ?_
    refine run_retF hF0 hpin () trivial [] rfl rfl (by first | exact conj_nil | simp [conj]) rfl ?_
    simp [conj, less_rfl]
  refine run_ff (by simp; omega) ?_
  refine goT hB [] 400 rfl (by first | exact conj_nil | simp [conj]) ?_
  refine run_open hK 37 h'.o (by decide) rfl (fun o1 => ?_)
  refine goT hB [(8, 39)] 400 rfl (by first | exact conj_nil | simp [conj]) ?_
  refine run_close (.inl rfl) ?_
  by_cases q2 : (H.m : Int) ≤ x1
  · refine run_tt (by simp; omega) ?_
    refine goT hB [] 400 rfl (by first | exact conj_nil | simp [conj]) ?_
    refine run_callCK (known_hck (K := K)) named hB hK [] rfl rfl rfl rfl (by first | exact conj_nil | simp [conj]) (by simp [conj, less_rfl]) ?_
    rintro ⟨⟩ _
    refine ⟨show 0 ≤ 0 by omega, _, _, _, rfl, rfl, rfl, ?_⟩
    refine goT hB [] 400 rfl (by first | exact conj_nil | simp [conj]) ?_
    refine run_retF hF0 hpin () trivial [] rfl rfl (by first | exact conj_nil | simp [conj]) rfl ?_
    simp [conj, less_rfl]
  refine run_ff (by simp; omega) ?_
  refine goT hB [(8, 43)] 400 rfl (by simp [conj]) ?_
  by_cases q3 : x2 < 0
  · refine run_tt (by simp; omega) ?_
    refine goT hB [] 400 rfl (by first | exact conj_nil | simp [conj]) ?_
    refine run_callCK (known_hck (K := K)) named hB hK [] rfl rfl rfl rfl (by first | exact conj_nil | simp [conj]) (by simp [conj, less_rfl]) ?_
    rintro ⟨⟩ _
    refine ⟨show 0 ≤ 0 by omega, _, _, _, rfl, rfl, rfl, ?_⟩
    refine goT hB [] 400 rfl (by first | exact conj_nil | simp [conj]) ?_
    refine run_retF hF0 hpin () trivial [] rfl rfl (by first | exact conj_nil | simp [conj]) rfl ?_
    simp [conj, less_rfl]
  refine run_ff (by simp; omega) ?_
  refine goT hB [(8, 47)] 400 rfl (by simp [conj]) ?_
  by_cases q4 : 1000 < x2
  · refine run_tt (by simp; omega) ?_
    refine goT hB [] 400 rfl (by first | exact conj_nil | simp [conj]) ?_
    refine run_callCK (known_hck (K := K)) named hB hK [] rfl rfl rfl rfl (by first | exact conj_nil | simp [conj]) (by simp [conj, less_rfl]) ?_
    rintro ⟨⟩ _
    refine ⟨show 0 ≤ 0 by omega, _, _, _, rfl, rfl, rfl, ?_⟩
    refine goT hB [] 400 rfl (by first | exact conj_nil | simp [conj]) ?_
    refine run_retF hF0 hpin () trivial [] rfl rfl (by first | exact conj_nil | simp [conj]) rfl ?_
    simp [conj, less_rfl]
  refine run_ff (by simp; omega) ?_
  refine goT hB [(8, 51)] 400 rfl (by simp [conj]) ?_
  by_cases q5 : x3 < 0
  · refine run_tt (by simp; omega) ?_
    refine goT hB [] 400 rfl (by first | exact conj_nil | simp [conj]) ?_
    refine run_callCK (known_hck (K := K)) named hB hK [] rfl rfl rfl rfl (by first | exact conj_nil | simp [conj]) (by simp [conj, less_rfl]) ?_
    rintro ⟨⟩ _
    refine ⟨show 0 ≤ 0 by omega, _, _, _, rfl, rfl, rfl, ?_⟩
    refine goT hB [] 400 rfl (by first | exact conj_nil | simp [conj]) ?_
    refine run_retF hF0 hpin () trivial [] rfl rfl (by first | exact conj_nil | simp [conj]) rfl ?_
    simp [conj, less_rfl]
  refine run_ff (by simp; omega) ?_
  refine goT hB [(8, 55)] 400 rfl (by simp [conj]) ?_
  by_cases q6 : 1000 < x3
  · refine run_tt (by simp; omega) ?_
    refine goT hB [] 400 rfl (by first | exact conj_nil | simp [conj]) ?_
    refine run_callCK (known_hck (K := K)) named hB hK [] rfl rfl rfl rfl (by first | exact conj_nil | simp [conj]) (by simp [conj, less_rfl]) ?_
    rintro ⟨⟩ _
    refine ⟨show 0 ≤ 0 by omega, _, _, _, rfl, rfl, rfl, ?_⟩
    refine goT hB [] 400 rfl (by first | exact conj_nil | simp [conj]) ?_
    refine run_retF hF0 hpin () trivial [] rfl rfl (by first | exact conj_nil | simp [conj]) rfl ?_
    simp [conj, less_rfl]
  refine run_ff (by simp; omega) ?_
  obtain ⟨a, rfl⟩ : ∃ a : Nat, x1 = a := ⟨x1.toNat, by omega⟩
  have ha : a < H.m := by omega
  have e0 : 0 + ((a : Nat) : Int).toNat = a := by omega
  refine goT hB [] 400 rfl (by first | exact conj_nil | simp [conj]) ?_
  refine run_open hK 59 h'.o (by decide) rfl (fun o2 => ?_)
  refine goT hB [(8, 64)] 400 rfl (by simp [conj]; omega) ?_
  rw [e0]
  refine run_close (.inl rfl) ?_
  by_cases q7 : 1152921504606846976 < (H.op a).e
  · refine run_tt (by simp; omega) ?_
    refine goT hB [] 400 rfl (by first | exact conj_nil | simp [conj]) ?_
    refine run_callCK (known_hck (K := K)) named hB hK [] rfl rfl rfl rfl (by first | exact conj_nil | simp [conj]) (by simp [conj, less_rfl]) ?_
    rintro ⟨⟩ _
    refine ⟨show 0 ≤ 0 by omega, _, _, _, rfl, rfl, rfl, ?_⟩
    refine goT hB [] 400 rfl (by first | exact conj_nil | simp [conj]) ?_
    refine run_retF hF0 hpin () trivial [] rfl rfl (by first | exact conj_nil | simp [conj]) rfl ?_
    simp [conj, less_rfl]
  refine run_ff (by simp; omega) ?_
  refine goT hB [] 400 rfl (by first | exact conj_nil | simp [conj]) ?_
  have hlen := (hs.v hv).2
  refine run_callCK (explained_hck h' hv (by omega) h.vf) named hB hK [] rfl rfl rfl rfl (by first | exact conj_nil | simp [conj]) (by simp [conj, less_rfl]) ?_
  rintro (_ | ⟨be, ke⟩) hz
  · obtain ⟨u, e, q1, q2, q3⟩ := hz
    have := hlen u q1 e q2
    omega
  obtain ⟨_, hex⟩ := hz
  refine ⟨show 0 ≤ 0 by omega, _, _, _, rfl, rfl, rfl, ?_⟩
  refine goT hB [(8, 70)] 400 rfl (by first | exact conj_nil | simp [conj]) ?_
  cases be with
  | false =>
    refine run_ff rfl ?_
    refine goT hB [] 400 rfl (by first | exact conj_nil | simp [conj]) ?_
    refine run_callCK (known_hck (K := K)) named hB hK [] rfl rfl rfl rfl (by first | exact conj_nil | simp [conj]) (by simp [conj, less_rfl]) ?_
    rintro ⟨⟩ _
    refine ⟨show 0 ≤ 0 by omega, _, _, _, rfl, rfl, rfl, ?_⟩
    refine goT hB [] 400 rfl (by first | exact conj_nil | simp [conj]) ?_
    refine run_retF hF0 hpin () trivial [] rfl rfl (by first | exact conj_nil | simp [conj]) rfl ?_
    simp [conj, less_rfl]
  | true =>
    have hall : ∀ u, u < nU H → SomeF H u := by
      rcases hex with ⟨_, _, g⟩ | ⟨g, _⟩
      · exact g
      · cases g
    obtain ⟨⟨k1, k2, k3, k4⟩, k5, k6, k7, k8, k9, k10⟩ := hv.ops a ha
    have hbf := h.bf a ha
    rw [Fits_i64] at hbf
    refine run_tt rfl ?_
    refine goT hB [] 400 rfl (by first | exact conj_nil | simp [conj]) ?_
    refine run_to hpin [0] (nx' := 1) (rest' := []) (sl' := [(80, i64 a), (79, .val vo), (4, .ptr 0 0), (3, i64 x3), (2, i64 x2), (1, i64 a)]) (hp' := [(0, hC H vo vc)]) rfl rfl (by simp [conj, less_rfl]) ?_
    refine run_openBN hK 0 2 h'.o (by decide) rfl rfl (fun _ => rfl) (fun _ => rfl) hpin (Nat.zero_le _) (fun o3 B1 hM1 hD1 hpin1 hkn1 => ?_)
    have hB1 : B1.ok := by intro x o hx; rw [hM1.w]; rw [hD1] at hx; exact hB x o hx
    have hK1 : ∀ b o, K b = some o → B1.D b = some o := fun b o e => by rw [hD1]; exact hK b o e
    refine run_open hK1 79 h'.o (by decide) rfl (fun o4 => ?_)
    refine goT hB1 [(8, 98)] 400 rfl (by simp [conj, Fits_i64, ha]; (repeat' apply And.intro) <;> first | omega | (intros; exact orow_storable _ _ _ _) | skip) ?_
    rw [e0]
    obtain ⟨kp, hkp⟩ : ∃ kp : Nat → Bool, kp = fun i => decide (i ≠ a) := ⟨_, rfl⟩
    have hkl : keptL H kp = List.range a ++ (List.range (H.m - (a + 1))).map fun d => a + 1 + d := by rw [hkp]; exact kept_ne H a ha
    have hklen : (keptL H kp).length = a + (H.m - (a + 1)) := by rw [hkl]; simp
    refine run_to hpin1 [0, 1, 2, 3, 4, 15] (nx' := 6) (rest' := []) (sl' := [(98, .sb (decide ((H.op a).k = 0))), (13, .ptr 4 0), (12, .ptr 3 0), (4, .ptr 0 0), (3, i64 x3), (2, i64 x2), (1, i64 a)])
      (hp' := [(5, .row 0 (keptL H kp).length (keptL H kp).length 6 (orowS H V (keptL H kp)) 39), (4, .cells [i64 H.unit, i64 H.blocks, .sq 5 0 0 6 (keptL H kp).length .own, .val vc] 25), (3, .cells [i64 (H.op a).k, i64 (H.op a).f, .val (V a), i64 (H.op a).b, i64 (H.op a).e, .sb (H.op a).fo] 39), (0, .cells [i64 H.unit, i64 H.blocks, .sq 1 o3 0 6 H.m .no, .val vc] 25)]) rfl rfl (by
      simp [conj, less_rfl, ren_orow, renR_orow, ren_orowS, renR_orowS, hklen]
      exact fun i k hi hk => kept_row H V a ha hkl hi) ?_
    refine run_shutN (K := K) (r := 1) (off := o3) (sz := 6) (m := H.m) (ap := .no) (g := orow H V) hkn1 0 2 rfl rfl (fun _ => rfl) (fun vo2 hvo2 => ?_)
    refine run_close (.inl rfl) ?_
    refine run_close (.inl rfl) ?_
    refine run_unpin hM1 ?_
    clear hkn1 hpin1
    have h2 : HOK K H vo2 vc V := ⟨hvo2, h'.c, h'.v, h'.m, h'.nc, h'.n⟩
    refine run_freezeB hB hK 4 2 (L := 5) (off := 0) (sz := 6) (m := (keptL H kp).length) (m' := (keptL H kp).length) (cap := (keptL H kp).length) (ap := .own) (g := orowS H V (keptL H kp)) rfl rfl rfl rfl (Nat.le_refl _) (fun x c _ _ => orow_closed _ _ _ c) rfl (fun _ => rfl) (fun _ => rfl) (fun ov B2 K2 hov hF2 hp2 => ?_)
    have hpin2 := hpin.fz hF2 hp2
    have hB2 := hF2.ok
    have hK2 := hF2.le
    have h3 := h2.mono fun b o e => hF2.old b o e (fun h => h)
    have hkm : (keptL H kp).length ≤ H.m := by omega
    have ho : HOK K2 (subH H kp) ov vc (fun j => V (gS H kp j)) := ⟨hov, h3.c, fun j hj => h3.v _ (gS_lt hj).1, by show (keptL H kp).length ≤ 100; omega, h3.nc, fun j => h3.n _⟩
    apply run_share (N := 165) (P := Try.prog) (f := 8) (ro := []) (B := B2) (fun N TD => ⟨⟨fid 8, N, [(120, .sb (decide (0 ≤ (H.op a).e))), (17, .ptr 1 0), (12, .ptr 2 0), (4, .ptr 0 0), (3, i64 x3), (1, i64 a)], TD⟩, [], [(1, .cells [i64 (H.op a).k, i64 (H.op a).f, .val (V a), i64 (max 0 ((H.op a).b - x2)), i64 (H.op a).e, .sb (H.op a).fo] 39), (2, .cells [i64 (H.op a).k, i64 (H.op a).f, .val (V a), i64 (H.op a).b, i64 (H.op a).e, .sb (H.op a).fo] 39), (0, hC H vo2 vc)], 3⟩)
    · intro next
      by_cases hk0 : (H.op a).k = 0
      · refine run_tt (by simpa using hk0) ?_
        refine goT hB2 [] 400 rfl (by clear next; first | exact conj_nil | simp [conj]) ?_
        have hvs := sub_valid hv kp
        have hrem : ∀ i, i < H.m → kp i = false → ¬ (H.op i).k = 1 ∧ ¬ (H.op i).k = 2 := fun i _ q => by
          rw [hkp] at q
          have e : i = a := by simpa using q
          rw [e]
          exact ⟨by omega, by omega⟩
        have hsim : ∀ u e, ∃ φ, Sim (ptE H u e) (lenE H u e) (ptE (subH H kp) u e) (lenE (subH H kp) u e) φ := fun u e => sub_sim H kp u e hrem
        have hlens : ∀ u, u < nU H → ∀ e, e ≤ H.nc → lenE (subH H kp) (u : Nat) e ≤ 12 := fun u hu e he => by
          have h1 := hlen u hu e he
          have : lenE (subH H kp) (u : Nat) e ≤ lenE H (u : Nat) e := by rw [sub_lenE]; exact List.length_filter_le _ _
          omega
        refine run_callCK (explained_hck ho hvs (by show H.nc ≤ 24; omega) (fun j hj k hk => h.vf _ (gS_lt hj).1 k hk)) named hB2 hK2 [] rfl rfl rfl rfl (by first | exact conj_nil | simp [conj]) (by clear next; simp [conj, less_rfl, subH]) ?_
        rintro (_ | ⟨b2, k2'⟩) hz2
        · obtain ⟨u, e, q1, q2, q3⟩ := hz2
          have := hlens u q1 e q2
          omega
        obtain ⟨_, hex2⟩ := hz2
        obtain ⟨rfl, rfl⟩ := ex_true (H := subH H kp) (n := nU H) (fun u hu => somef_mono (H := H) (H' := subH H kp) rfl (fun e he => by have := hlen u hu e he; omega) (hlens u hu) (fun e _ => hsim u e) (hall u hu)) b2 k2' hex2
        refine ⟨show 0 ≤ 0 by omega, _, _, _, rfl, rfl, rfl, ?_⟩
        refine goT hB2 [(8, 102)] 400 rfl (by clear next; first | exact conj_nil | simp [conj]) ?_
        refine run_tt rfl ?_
        refine goT hB2 [(8, 120)] 400 rfl (by clear next; simp [conj, Fits_i64]; omega) ?_
        refine run_to hpin2 [0, 6, 3] rfl rfl ?_ next
        clear next
        simp [conj, less_rfl]
      · refine run_ff (by simpa using hk0) ?_
        refine goT hB2 [(8, 120)] 400 rfl (by clear next; simp [conj, Fits_i64]; omega) ?_
        refine run_to hpin2 [0, 6, 3] rfl rfl ?_ next
        clear next
        simp [conj, less_rfl]
    obtain ⟨e', he'⟩ : ∃ e', e' = if 0 ≤ (H.op a).e then (H.op a).e + x3 else (H.op a).e := ⟨_, rfl⟩
    obtain ⟨b', hb'⟩ : ∃ b', b' = max 0 ((H.op a).b - x2) := ⟨_, rfl⟩
    rw [← hb']
    apply run_share (N := 165) (P := Try.prog) (f := 8) (ro := []) (B := B2) (fun N TD => ⟨⟨fid 8, N, [(128, .val vo2), (18, .ptr 3 0), (17, .ptr 1 0), (12, .ptr 2 0), (4, .ptr 0 0), (1, i64 a)], TD⟩, [], [(3, hC H vo2 vc), (1, .cells [i64 (H.op a).k, i64 (H.op a).f, .val (V a), i64 b', i64 e', .sb (H.op a).fo] 39), (2, .cells [i64 (H.op a).k, i64 (H.op a).f, .val (V a), i64 (H.op a).b, i64 (H.op a).e, .sb (H.op a).fo] 39), (0, hC H vo2 vc)], 4⟩)
    · intro next
      by_cases q8 : 0 ≤ (H.op a).e
      · rw [if_pos q8] at he'
        refine run_tt (by simpa using q8) ?_
        refine goT hB2 [] 400 rfl (by clear next; simp [conj, Fits_i64]; omega) ?_
        refine run_to hpin2 [0, 1, 2, 3] rfl rfl ?_ next
        clear next
        simp [conj, less_rfl, he']
      · rw [if_neg q8] at he'
        refine run_ff (by simpa using q8) ?_
        refine goT hB2 [] 400 rfl (by clear next; simp [conj]) ?_
        refine run_to hpin2 [0, 1, 2, 3] rfl rfl ?_ next
        clear next
        simp [conj, less_rfl, he']
    refine run_open hK2 128 h3.o (by decide) rfl (fun o5 => ?_)
    refine goT hB2 [] 400 rfl (by simp [conj, Fits_i64, ha, e0]; (repeat' apply And.intro) <;> first | omega | (intros; exact orow_storable _ _ _ _) | skip) ?_
    obtain ⟨y, hy⟩ : ∃ y : HO, y = { H.op a with b := b', e := e' } := ⟨_, rfl⟩
    refine run_to hpin2 [0, 1, 2, 3, 4, 5] (nx' := 6) (rest' := []) (sl' := [(18, .ptr 3 0), (17, .ptr 1 0), (12, .ptr 2 0), (4, .ptr 0 0)])
      (hp' := [(5, .row 0 H.m H.m 6 (orow (modH H a y) V) 39), (3, .cells [i64 H.unit, i64 H.blocks, .sq 5 0 0 6 H.m .own, .val vc] 25), (1, .cells [i64 (H.op a).k, i64 (H.op a).f, .val (V a), i64 b', i64 e', .sb (H.op a).fo] 39), (2, .cells [i64 (H.op a).k, i64 (H.op a).f, .val (V a), i64 (H.op a).b, i64 (H.op a).e, .sb (H.op a).fo] 39), (0, hC H vo2 vc)]) rfl rfl (by
      simp [conj, less_rfl, ren_orow, renR_orow]
      rw [hy]
      exact fun i k _ hk => mod_row H V a b' e' hk) ?_
    refine run_close (.inl rfl) ?_
    refine run_freezeB hB2 hK2 3 2 (L := 5) (off := 0) (sz := 6) (m := H.m) (m' := H.m) (cap := H.m) (ap := .own) (g := orow (modH H a y) V) rfl rfl rfl rfl (Nat.le_refl _) (fun x c _ _ => orow_closed _ _ _ c) rfl (fun _ => rfl) (fun _ => rfl) (fun zv B3 K3 hzv hF3 hp3 => ?_)
    have hb0 := k8
    have hkk : y.k = (H.op a).k ∧ y.f = (H.op a).f ∧ y.n = (H.op a).n ∧ y.v = (H.op a).v ∧ y.fo = (H.op a).fo ∧ y.b = b' ∧ y.e = e' := by rw [hy]; exact ⟨rfl, rfl, rfl, rfl, rfl, rfl, rfl⟩
    have hpin3 := hpin2.fz hF3 hp3
    have hF0' := hF2.trans0 hF3 hK fun _ h => h.elim
    have hB3 := hF3.ok
    have hK3 := hF3.le
    have h4 := h3.mono fun b o e => hF3.old b o e (fun h => h)
    have hoz : HOK K3 (modH H a y) zv vc V := ⟨hzv, h4.c, fun i hi => mod_at i (fun x => Froz K3 (V i) x.n 1 (urow x.v)) (fun e => by rw [e, hkk.2.2.1, hkk.2.2.2.1]; exact h4.v a ha) fun _ => h4.v i hi, h4.m, h4.nc, fun i => mod_at i (fun x => x.n ≤ 100) (fun e => by rw [hkk.2.2.1]; exact h4.n a) fun _ => h4.n i⟩
    obtain ⟨bz, hbz⟩ := valid_b (modH H a y)
    have c14 := validR_hck hoz h.u (fun i hi => mod_at i (fun x => Fits .i64 x.f) (fun e => by rw [hkk.2.1]; exact h.f a ha) fun _ => h.f i hi) bz hbz
    have cb1 := epochR_hck h4 (H.op a).b
    have cb2 := epochR_hck h4 b'
    refine run_draw0 mixed (fun t => ?_)
    refine run_drawK (M := modeJ) (kn := K3) hK3 1 4 rfl named hB3 (sumOk_nil _) [(7, ⟨14, [.agg [i64 H.unit, i64 H.blocks, .val zv, .val vc]], [], [], 0, .sb bz, [], 0, []⟩)] ⟨⟨c14, rfl, Nat.le_refl _⟩, trivial⟩ rfl rfl rfl rfl rfl rfl (by simp [conj, less_rfl, SO.Live]) (fun t => ?_)
    by_cases hvz : VHi (modH H a y)
    rotate_left
    · have hbf : bz = false := by
        cases e : bz with
        | false => rfl
        | true => exact absurd (hbz.1 e) hvz
      rw [hbf]
      refine run_tt rfl ?_
      refine run_drawK (M := modeJ) (kn := K3) hK3 1 10 rfl named hB3 (sumOk_nil _) [] trivial rfl rfl rfl rfl rfl rfl (by first | exact conj_nil | simp [conj]) (fun t => ?_)
      refine run_drawE rfl ?_
      refine goT hB3 [] 400 rfl (by first | exact conj_nil | simp [conj]) ?_
      refine run_callCK (known_hck (K := K3)) named hB3 hK3 [] rfl rfl rfl rfl (by first | exact conj_nil | simp [conj]) (by simp [conj, less_rfl]) ?_
      rintro ⟨⟩ _
      refine ⟨show 0 ≤ 0 by omega, _, _, _, rfl, rfl, rfl, ?_⟩
      refine goT hB3 [] 400 rfl (by first | exact conj_nil | simp [conj]) ?_
      refine run_retF hF0' hpin3 () trivial [] rfl rfl (by first | exact conj_nil | simp [conj]) rfl ?_
      simp [conj, less_rfl]
    have hbt : bz = true := hbz.2 hvz
    rw [hbt]
    refine run_ff rfl ?_
    refine run_drawK (M := modeJ) (kn := K3) hK3 1 10 rfl named hB3 (sumOk_nil _) [(13, rcER H vo2 vc (H.op a).b), (17, rcER H vo2 vc b')] ⟨⟨cb1, rfl, Nat.le_refl _⟩, ⟨cb2, rfl, Nat.le_refl _⟩, trivial⟩ rfl rfl rfl rfl rfl rfl (by simp [conj, less_rfl, SO.Live]) (fun t => ?_)
    refine run_drawE rfl ?_
    by_cases hepq : ep H (H.op a).b = ep H b'
    rotate_left
    · refine run_tt (by simp; omega) ?_
      refine goT hB3 [] 400 rfl (by first | exact conj_nil | simp [conj]) ?_
      refine run_callCK (known_hck (K := K3)) named hB3 hK3 [] rfl rfl rfl rfl (by first | exact conj_nil | simp [conj]) (by simp [conj, less_rfl]) ?_
      rintro ⟨⟩ _
      refine ⟨show 0 ≤ 0 by omega, _, _, _, rfl, rfl, rfl, ?_⟩
      refine goT hB3 [] 400 rfl (by first | exact conj_nil | simp [conj]) ?_
      refine run_retF hF0' hpin3 () trivial [] rfl rfl (by first | exact conj_nil | simp [conj]) rfl ?_
      simp [conj, less_rfl]
    refine run_ff (by simp; omega) ?_
    refine goT hB3 [] 400 rfl (by first | exact conj_nil | simp [conj]) ?_
    have wk : Wk H a y := ⟨hkk.1, hkk.2.1, hkk.2.2.1, hkk.2.2.2.1, hkk.2.2.2.2.1, by rw [hkk.2.2.2.2.2.1]; omega, by rw [hkk.2.2.2.2.2.2]; split at he' <;> omega, by rw [hkk.2.2.2.2.2.2]; split at he' <;> omega, by rw [hkk.2.2.2.2.2.1]; exact hepq.symm⟩
    have hlens : ∀ u, u < nU H → ∀ e, e ≤ H.nc → lenE (modH H a y) (u : Nat) e ≤ 12 := fun u hu e he => by rw [wk.lenE]; have := hlen u hu e he; omega
    refine run_callCK (explained_hck hoz hvz (by show H.nc ≤ 24; omega) (fun j hj k hk => by rw [wk.vv]; rw [wk.nn] at hk; exact h.vf j hj k hk)) named hB3 hK3 [] rfl rfl rfl rfl (by first | exact conj_nil | simp [conj]) (by simp [conj, less_rfl, modH]) ?_
    rintro (_ | ⟨b2, k2'⟩) hz2
    · obtain ⟨u, e, q1, q2, q3⟩ := hz2
      have := hlens u q1 e q2
      omega
    obtain ⟨_, hex2⟩ := hz2
    obtain ⟨rfl, rfl⟩ := ex_true (H := modH H a y) (n := nU H) (fun u hu => somef_mono (H := H) (H' := modH H a y) rfl (fun e he => by have := hlen u hu e he; omega) (hlens u hu) (fun e _ => wk.sim u e) (hall u hu)) b2 k2' hex2
    refine ⟨show 0 ≤ 0 by omega, _, _, _, rfl, rfl, rfl, ?_⟩
    refine goT hB3 [] 400 rfl (by first | exact conj_nil | simp [conj]) ?_
    refine run_callCK (known_hck (K := K3)) named hB3 hK3 [] rfl rfl rfl rfl (by first | exact conj_nil | simp [conj]) (by simp [conj, less_rfl]) ?_
    rintro ⟨⟩ _
    refine ⟨show 0 ≤ 0 by omega, _, _, _, rfl, rfl, rfl, ?_⟩
    refine goT hB3 [] 400 rfl (by first | exact conj_nil | simp [conj]) ?_
    refine run_retF hF0' hpin3 () trivial [] rfl rfl (by first | exact conj_nil | simp [conj]) rfl ?_
    simp [conj, less_rfl]
end Sx
