/- JudgeEpochs: its walk. Conditions: as each theorem says. Printed by gen_jzc.py. -/
import Derived.Test.YtdjckiilfplnfaaJza
import Derived.Test.YtdjckiilfplnfaaEngX5
set_option linter.unusedSimpArgs false
set_option linter.unusedVariables false
namespace Sx
open Go Go.Proofs
set_option maxRecDepth 100000
set_option pp.deepTerms true
set_option pp.maxSteps 10000000
set_option maxHeartbeats 4000000 in
/-- Epoch, where the operations are laid open. -/
theorem epochO_hck {K : Kn} {H : Hi} {vo vc : Value} {V : Nat → Value} (h : HOK K H vo vc V) (t : Int) (off : Nat) :
    HCK Try.prog K 20 [.agg [i64 H.unit, i64 H.blocks, .sq 0 off 0 6 H.m .no, .val vc], i64 t] [] [(0, .row off H.m H.m 6 (orow H V) anyTy)] 1 (fun _ : Unit => True) (fun _ => ⟨i64 (ep H t), [], 1⟩) := by
  have hnc := h.nc
  refine hck_of_run Try.func20 rfl (fun B hB hK hpin => ?_)
  refine goT hB [] 3 rfl (by first | exact conj_nil | simp [conj]) ?_
  refine run_openB hK 1 3 h.c (by decide) rfl rfl (fun _ => rfl) (fun _ => rfl) (fun o1 => ?_)
  refine goT hB [] 400 rfl (by first | exact conj_nil | simp [conj]) ?_
  refine run_loop ?_
  have hle : ∀ i, cntB (fun i => decide (H.c i ≤ t)) i ≤ i := fun i => by
    induction i with
    | zero => exact Nat.le_refl _
    | succ i ih =>
      unfold cntB
      cases decide (H.c i ≤ t) with
      | true => rw [cond_true]; omega
      | false => rw [cond_false]; omega
  refine run_inv (ι := Nat) hpin (fun i => i ≤ H.nc) (fun i => H.nc - i)
    (fun i => [(6, i64 i), (5, i64 (cntB (fun i => decide (H.c i ≤ t)) i)), (2, .ptr 1 0), (1, i64 t)]) (fun _ => []) (fun _ => [(1, .cells [i64 H.unit, i64 H.blocks, .sq 0 off 0 6 H.m .no, .sq 2 o1 0 1 H.nc .no] 25)]) 3 0 (Nat.zero_le _) [0, 1, 2] rfl rfl (by simp [conj, less_rfl, ren_urow, renR_urow, ren_orow, renR_orow, cntB]) ?_
  intro i hi ih
  refine goT hB [(20, 11)] 400 rfl (by clear ih; first | exact conj_nil | simp [conj]) ?_
  by_cases hin : i < H.nc
  · have e0 : 0 + ((i : Nat) : Int).toNat = i := by omega
    have ih := ih (i + 1) (by omega) (by omega)
    have hs : cntB (fun i => decide (H.c i ≤ t)) (i + 1) = cntB (fun i => decide (H.c i ≤ t)) i + (bif decide (H.c i ≤ t) then 1 else 0) := rfl
    have := hle i
    refine run_tt (by simpa using hin) ?_
    refine goT hB [(20, 20)] 400 rfl (by clear ih; simp [conj, hin]) ?_
    rw [e0]
    by_cases hc : H.c i ≤ t
    · rw [hs, decide_eq_true hc, cond_true] at ih
      refine run_tt (by simpa using hc) ?_
      refine goT hB [] 400 rfl (by clear ih; simp [conj, Fits_i64]; omega) ?_
      refine run_back ?_
      refine run_to hpin [0, 1, 2] rfl rfl ?_ ih
      clear ih
      simp [conj, less_rfl, ren_urow, renR_urow, ren_orow, renR_orow]
    · rw [hs, decide_eq_false hc, cond_false, Nat.add_zero] at ih
      refine run_ff (by simpa using hc) ?_
      refine goT hB [] 400 rfl (by clear ih; simp [conj, Fits_i64]; omega) ?_
      refine run_back ?_
      refine run_to hpin [0, 1, 2] rfl rfl ?_ ih
      clear ih
      simp [conj, less_rfl, ren_urow, renR_urow, ren_orow, renR_orow]
  · clear ih
    have hie : i = H.nc := by omega
    subst hie
    refine run_ff (by simp) ?_
    refine goT hB [] 400 rfl (by first | exact conj_nil | simp [conj]) ?_
    refine run_close (.inl rfl) ?_
    refine run_retC hpin () trivial [0] rfl rfl (by first | exact conj_nil | simp [conj]) rfl ?_
    simp [conj, less_rfl, ep, ren_orow, renR_orow]

theorem EI_pre (H : Hi) (k i : Nat) : ∀ d, ∃ r, EI H k (i + d) = EI H k i ++ r
  | 0 => ⟨[], by simp⟩
  | d + 1 => by
    obtain ⟨r, hr⟩ := EI_pre H k i d
    by_cases q : ep H (H.op (i + d)).b = k
    · exact ⟨r ++ [i + d], by rw [← Nat.add_assoc, EI_yes q, hr, List.append_assoc]⟩
    · exact ⟨r, by rw [← Nat.add_assoc, EI_no q, hr]⟩
theorem EI_get {H : Hi} {k i n : Nat} (h : ep H (H.op i).b = k) (hin : i < n) : (EI H k i).length < (EI H k n).length ∧ (EI H k n).getD (EI H k i).length 0 = i := by
  obtain ⟨r, hr⟩ := EI_pre H k (i + 1) (n - (i + 1))
  rw [show i + 1 + (n - (i + 1)) = n by omega, EI_yes h, List.append_assoc] at hr
  rw [hr]
  refine ⟨by simp, ?_⟩
  rw [List.getD_eq_getElem?_getD, List.getElem?_append_right (Nat.le_refl _), Nat.sub_self]
  rfl
theorem isFn41 : IsFn Try.prog 41 := ⟨_, _, _, Try.underlying41⟩
/-- slices.Clone of a row of numbers, into an own row. -/
theorem cloneO_hck (K : Kn) (v : Value) (n : Nat) (f : Nat → Int) (hl : n < 1000000) (hF : Froz K v n 1 (urow f)) :
    HCK Try.prog K 26 [.val v] [] [] 0 (fun _ : Unit => True) (fun _ => ⟨.sq 0 0 0 1 n .own, [(0, .row 0 n n 1 (urow f) 3)], 1⟩) := by
  refine hck_of_run Try.func26 rfl (fun B hB hK hpin => ?_)
  refine goJ hB rfl rfl (by first | exact conj_nil | simp [conj]) ?_
  obtain ⟨base, room, rfl, e2, e3⟩ := id hF
  refine run_vnil isSl23.choose_spec rfl rfl rfl conj_nil (fun hb => ⟨?_, e2 hb⟩) rfl ?_
  · rcases Nat.eq_zero_or_pos n with h | h
    · exact h
    · obtain ⟨_, b, o, _, _, _, h5, _⟩ := e3 h
      rw [hb] at h5; cases h5
  refine goJ hB rfl rfl (by first | exact conj_nil | simp [conj]) ?_
  refine run_cond rfl (fun hb => ?_) (fun hb => ?_)
  · have h0 : n = 0 := by
      rcases Nat.eq_zero_or_pos n with h | h
      · exact h
      · obtain ⟨_, b, o, _, _, _, h5, _⟩ := e3 h
        rw [h5] at hb; cases hb
    subst h0
    refine goJ hB rfl rfl (by first | exact conj_nil | simp [conj]) ?_
    refine run_retC hpin () trivial [5] rfl rfl (by first | exact conj_nil | simp [conj]) rfl ?_
    simp [conj, less_rfl]
  · refine goJ hB rfl rfl (by first | exact conj_nil | simp [conj]) ?_
    refine run_open hK 6 hF (by decide) rfl (fun off => ?_)
    refine goJ hB rfl rfl (by simp [conj]; exact ⟨by omega, by omega, fun i _ => rfl⟩) ?_
    refine run_close (.inl rfl) ?_
    refine run_retC hpin () trivial [2] rfl rfl (by first | exact conj_nil | simp [conj]) rfl ?_
    simp [conj, less_rfl, ren_urow, renR_urow]
    refine fun i hi => Less.of ?_
    simp only [appF, Nat.zero_add]
    rw [show Nat.blt i 0 = false from by cases i <;> rfl]; rfl
set_option maxHeartbeats 16000000 in
theorem judgeEpochs_hcx {K : Kn} {H : Hi} {vo vc : Value} {V : Nat → Value} (h : ARG K H vo vc V) (x1 : Int) (hx1 : Fits .i64 x1) :
    HCX Try.prog K M0 5 [hA H vo vc, i64 x1] [] [] 0 (fun (_ : Unit) _ => True) (fun _ => ⟨.tt, [], 0⟩) := by
  refine hcx_of_run Try.func5 rfl (fun B hB hK hpin => ?_)
  have hF0 : Fz B K M0 B K := .refl hB hK
  have hm63 := h.m
  have hc63 := h.nc
  rw [Fits_i64] at hx1
  refine goT hB [] 400 rfl (by first | exact conj_nil | simp [conj]) ?_
  refine run_open hK 15 h.o (by decide) rfl (fun o1 => ?_)
  refine goT hB [(5, 17)] 400 rfl (by first | exact conj_nil | simp [conj]) ?_
  refine run_close (.inl rfl) ?_
  by_cases q1 : 14 < H.m
  · refine run_tt (by simp; omega) ?_
    refine goT hB [] 400 rfl (by first | exact conj_nil | simp [conj]) ?_
    refine run_callCK (known_hck (K := K)) named hB hK [] rfl rfl rfl rfl (by first | exact conj_nil | simp [conj]) (by simp [conj, less_rfl]) ?_
    rintro ⟨⟩ _
    refine ⟨show 0 ≤ 0 by omega, _, _, _, rfl, rfl, rfl, ?_⟩
    refine goT hB [] 400 rfl (by first | exact conj_nil | simp [conj]) ?_
    refine run_retF hF0 hpin () trivial [] rfl rfl (by first | exact conj_nil | simp [conj]) rfl ?_
    simp [conj, less_rfl]
  refine run_ff (by simp; omega) ?_
  refine goT hB [] 400 rfl (by first | exact conj_nil | simp [conj]) ?_
  refine run_open hK 20 h.c (by decide) rfl (fun o2 => ?_)
  refine goT hB [(5, 22)] 400 rfl (by first | exact conj_nil | simp [conj]) ?_
  refine run_close (.inl rfl) ?_
  by_cases q2 : 3 < H.nc
  · refine run_tt (by simp; omega) ?_
    refine goT hB [] 400 rfl (by first | exact conj_nil | simp [conj]) ?_
    refine run_callCK (known_hck (K := K)) named hB hK [] rfl rfl rfl rfl (by first | exact conj_nil | simp [conj]) (by simp [conj, less_rfl]) ?_
    rintro ⟨⟩ _
    refine ⟨show 0 ≤ 0 by omega, _, _, _, rfl, rfl, rfl, ?_⟩
    refine goT hB [] 400 rfl (by first | exact conj_nil | simp [conj]) ?_
    refine run_retF hF0 hpin () trivial [] rfl rfl (by first | exact conj_nil | simp [conj]) rfl ?_
    simp [conj, less_rfl]
  refine run_ff (by simp; omega) ?_
  refine goT hB [] 400 rfl (by first | exact conj_nil | simp [conj]) ?_
  refine run_loop ?_
  refine run_inv (ι := Nat) hpin (fun i => i ≤ H.m ∧ ∀ j, j < i → (H.op j).n ≤ 40) (fun i => H.m - i) (fun i => [(5, i64 i), (4, .ptr 2 0), (3, .ptr 1 0), (2, .ptr 0 0)]) (fun _ => []) (fun _ => [(2, .cells [.ff] 4), (1, .cells [i64 x1] 3), (0, hC H vo vc)]) 3 0 ⟨Nat.zero_le _, fun j hj => absurd hj (Nat.not_lt_zero _)⟩ [0, 1, 2] rfl rfl (by simp [conj, less_rfl]) ?_
  rintro i ⟨hi, hall⟩ ih
  refine goT hB [] 400 rfl (by clear ih; first | exact conj_nil | simp [conj]) ?_
  refine run_open hK 27 h.o (by decide) rfl (fun o3 => ?_)
  refine goT hB [(5, 29)] 400 rfl (by clear ih; first | exact conj_nil | simp [conj]) ?_
  refine run_close (.inl rfl) ?_
  by_cases hin : i < H.m
  · have e0 : 0 + ((i : Nat) : Int).toNat = i := by omega
    refine run_tt (by simpa using hin) ?_
    refine goT hB [] 400 rfl (by clear ih; first | exact conj_nil | simp [conj]) ?_
    refine run_open hK 33 h.o (by decide) rfl (fun o4 => ?_)
    refine goT hB [] 400 rfl (by clear ih; simp [conj, hin]) ?_
    rw [e0]
    refine run_open hK 37 (h.v i hin) (by decide) rfl (fun o5 => ?_)
    refine goT hB [(5, 39)] 400 rfl (by clear ih; first | exact conj_nil | simp [conj]) ?_
    refine run_close (.inl rfl) ?_
    refine run_close (.inl rfl) ?_
    by_cases q3 : 40 < (H.op i).n
    · clear ih
      refine run_tt (by simp; omega) ?_
      refine goT hB [] 400 rfl (by first | exact conj_nil | simp [conj]) ?_
      refine run_callCK (known_hck (K := K)) named hB hK [] rfl rfl rfl rfl (by first | exact conj_nil | simp [conj]) (by simp [conj, less_rfl]) ?_
      rintro ⟨⟩ _
      refine ⟨show 0 ≤ 0 by omega, _, _, _, rfl, rfl, rfl, ?_⟩
      refine goT hB [] 400 rfl (by first | exact conj_nil | simp [conj]) ?_
      refine run_retF hF0 hpin () trivial [] rfl rfl (by first | exact conj_nil | simp [conj]) rfl ?_
      simp [conj, less_rfl]
    · have ih := ih (i + 1) ⟨by omega, fun j hj => by
        rcases Nat.eq_or_lt_of_le (Nat.le_of_lt_succ hj) with e | e
        · rw [e]; omega
        · exact hall j e⟩ (by omega)
      refine run_ff (by simp; omega) ?_
      refine goT hB [] 400 rfl (by clear ih; simp [conj, Fits_i64]; omega) ?_
      refine run_back ?_
      refine run_to hpin [0, 1, 2] rfl rfl ?_ ih
      clear ih
      simp [conj, less_rfl]
  clear ih
  have : i = H.m := by omega
  subst this
  have h' := h.toHOK0.ok (by omega) (by omega) hall
  obtain ⟨bv, hbv⟩ := valid_b H
  refine run_ff (by simp) ?_
  refine goT hB [] 400 rfl (by first | exact conj_nil | simp [conj]) ?_
  refine run_callCK (validR_hck h' h.u h.f bv hbv) named hB hK [] rfl rfl rfl rfl (by first | exact conj_nil | simp [conj]) (by simp [conj, less_rfl]) ?_
  rintro ⟨⟩ _
  refine ⟨show 0 ≤ 0 by omega, _, _, _, rfl, rfl, rfl, ?_⟩
  refine goT hB [] 400 rfl (by first | exact conj_nil | simp [conj]) ?_
  by_cases hv : VHi H
  · have hbvt : bv = true := hbv.2 hv
    subst hbvt
    refine run_callX (epochs_ok h' hv (by omega)) named hB hK (fun _ h => h.elim) (.inl rfl) [] rfl rfl rfl rfl (by first | exact conj_nil | simp [conj]) (by simp [conj, less_rfl]) ?_
    rintro ⟨ev, EV⟩ B1 K1 ⟨hev, hEV⟩ hF1 hp1
    have hB1 := hF1.ok
    have hK1 := hF1.le
    have hpin1 := hpin.fz hF1 hp1
    dsimp only at hev hEV
    refine ⟨show 0 ≤ 1 by omega, _, _, _, rfl, rfl, rfl, ?_⟩
    have h1 := h'.mono fun b o e => hF1.old b o e (fun h => h)
    refine goT hB1 [] 400 rfl (by first | exact conj_nil | simp [conj]) ?_
    refine run_to hpin1 [0, 1, 2, 4, 5] (nx' := 5) (rest' := []) (sl' := [(7, .clo (.func 37) [] [.ptr 4 0]), (6, .ptr 3 0), (4, .ptr 2 0), (3, .ptr 1 0), (2, .ptr 0 0)]) (hp' := [(4, .cells [.val ev] 28), (3, .cells [.tt] 4), (2, .cells [.ff] 4), (1, .cells [i64 x1] 3), (0, hC H vo vc)]) rfl rfl (by simp [conj, less_rfl]) ?_
    refine run_draw0 mixed (fun t => ?_)
    refine run_drawK (M := modeJ) (kn := K1) hK1 1 8 rfl named hB1 (sumOk_nil _) [(6, ⟨18, [hA H vo vc], [], [], 0, .sb true, [], 0, []⟩)] ⟨⟨valid_hck h1 true (by simp [hv]), rfl, Nat.le_refl _⟩, trivial⟩ rfl rfl rfl rfl rfl rfl (by simp [conj, less_rfl, SO.Live, isFn41, isBo4]) (fun t => ?_)
    refine run_drawE rfl ?_
    refine run_to hpin1 [0, 1, 2, 3, 4] (nx' := 5) (rest' := []) (sl' := [(52, .ff), (7, .clo (.func 37) [] [.ptr 4 0]), (6, .ptr 3 0), (4, .ptr 2 0), (3, .ptr 1 0), (2, .ptr 0 0)]) (hp' := [(4, .cells [.val ev] 28), (3, .cells [.tt] 4), (2, .cells [.ff] 4), (1, .cells [i64 x1] 3), (0, hC H vo vc)]) rfl rfl (by simp [conj, less_rfl] <;> exact Less.rfl) ?_
    skip
    refine run_openBN hK1 0 2 h1.o (by decide) rfl rfl (fun _ => rfl) (fun _ => rfl) hpin1 (Nat.zero_le _) (fun o6 B2 hM2 hD2 hpin2 hkn2 => ?_)
    have hB2 : B2.ok := by intro x o hx; rw [hM2.w]; rw [hD2] at hx; exact hB1 x o hx
    have hK2 : ∀ b o, K1 b = some o → B2.D b = some o := fun b o e => by rw [hD2]; exact hK1 b o e
    have hF2 : Fz B2 K1 M0 B2 K1 := .refl hB2 hK2
    refine goT hB2 [] 400 rfl (by first | exact conj_nil | simp [conj]) ?_
    refine run_loop ?_
    refine run_to hpin2 [0, 1, 2, 3, 4, 5, 6] (nx' := 7) (rest' := []) (sl' := [(8, .ptr 6 0), (7, .clo (.func 37) [] [.ptr 4 0]), (6, .ptr 3 0), (4, .ptr 2 0), (3, .ptr 1 0), (2, .ptr 0 0)]) (hp' := [(6, .cells [i64 ((0 : Nat) : Int)] 3), (4, .cells [.val ev] 28), (3, .cells [.tt] 4), (2, .cells [.ff] 4), (1, .cells [i64 x1] 3), (0, .cells [i64 H.unit, i64 H.blocks, .sq 5 o6 0 6 H.m .no, .val vc] 25)]) rfl rfl (by simp [conj, less_rfl, ren_orow, renR_orow]) ?_
    refine run_invXD (ι := Nat × List Nat) hF2 hpin2 (fun x K' => x.1 ≤ 2 ∧ x.2.Nodup ∧ ∀ d ∈ x.2, K' d = some noCalls ∧ B.D d = none ∧ K d = none) (fun x => 2 - x.1) (fun x => ⟨5, none, collD x.2⟩) (fun _ => [(8, .ptr 6 0), (7, .clo (.func 37) [] [.ptr 4 0]), (6, .ptr 3 0), (4, .ptr 2 0), (3, .ptr 1 0), (2, .ptr 0 0)]) (fun _ => []) (fun x => [(6, .cells [i64 x.1] 3), (4, .cells [.val ev] 28), (3, .cells [.tt] 4), (2, .cells [.ff] 4), (1, .cells [i64 x1] 3), (0, .cells [i64 H.unit, i64 H.blocks, .sq 5 o6 0 6 H.m .no, .val vc] 25)]) (0, []) ⟨Nat.zero_le _, List.nodup_nil, fun d hd => by cases hd⟩ ?_
    rintro ⟨t, Ds⟩ B3 K3 hF3 hpin3 ⟨ht, hDn, hDs⟩ ih
    dsimp only at ht hDn hDs ih ⊢
    have hB3 := hF3.ok
    have hK3 := hF3.le
    have h3 := h1.mono fun b o e => hF3.old b o e (fun h => h)
    refine goT hB3 [(5, 54)] 400 rfl (by clear ih; first | exact conj_nil | simp [conj]) ?_
    by_cases htl : t < 2
    rotate_left
    · clear ih
      refine run_ff (by simp; omega) ?_
      refine goT hB3 [] 400 rfl (by first | exact conj_nil | simp [conj]) ?_
      refine run_callCK (known_hck (K := K3)) named hB3 hK3 [] rfl rfl rfl rfl (by first | exact conj_nil | simp [conj]) (by simp [conj, less_rfl]) ?_
      rintro ⟨⟩ _
      refine ⟨show 0 ≤ 0 by omega, _, _, _, rfl, rfl, rfl, ?_⟩
      refine goT hB3 [] 2 rfl (by first | exact conj_nil | simp [conj]) ?_
      skip
      refine run_close (.inl rfl) ?_
      obtain ⟨hFu, hMu⟩ := hF3.unpin hM2
      refine run_unpin hMu ?_
      refine run_retZ (ro := []) (hF1.trans0 hFu hK fun _ h => h.elim) (np := 0) ⟨hpin1.p, hFu.kd.trans hpin1.k⟩ () (fun _ => trivial) (fun i s q => by simp [hget] at q) hDn hDs [] rfl rfl (by first | exact conj_nil | simp [conj]) rfl ?_ hB
      simp [conj, less_rfl]
    have ih := fun Ds' B'' K'' a b c => ih (t + 1, Ds') B'' K'' a b c (by show 2 - (t + 1) < 2 - t; omega)
    dsimp only at ih
    refine run_tt (by simp; omega) ?_
    refine goT hB3 [] 400 rfl (by clear ih; first | exact conj_nil | simp [conj]) ?_
    refine run_range named hB3 rfl rfl (by first | exact conj_nil | simp [conj]) rfl rfl rfl rfl ?_
    intro D l'
    have hB4 : (B3.pin2 8 D l').ok := Base.pin2_ok hB3
    have hpin4 : PinTo (B3.pin2 8 D l') 10 := hpin3.pin2 (by omega)
    have hK4 : ∀ b o, K3 b = some o → (B3.pin2 8 D l').D b = some o := hK3
    refine goT hB4 [] 400 rfl (by clear ih; first | exact conj_nil | simp [conj]) ?_
    have hev3 := hev.fz hF3
    have hEV3 := fun e (he : e ≤ H.nc) => (hEV e he).fz hF3
    refine run_open hK4 5 hev3 (by decide) rfl (fun o7 => ?_)
    refine goT hB4 [] 400 rfl (by clear ih; first | exact conj_nil | simp [conj]) ?_
    refine run_loop ?_
    refine run_invK (ι := Nat) hpin4 (fun j => j ≤ H.nc + 1) (fun j => H.nc + 1 - j) (fun j => [(7, i64 j), (6, i64 (H.nc + 1 : Nat)), (5, .sq 10 o7 0 1 (H.nc + 1) .no), (1, .ptr 4 0), (0, .clo (.yield l') [] [])]) (fun _ => [[(9, .ptr 7 0), (8, .ptr 6 0), (7, .clo (.func 37) [] [.ptr 4 0]), (6, .ptr 3 0), (4, .ptr 2 0), (3, .ptr 1 0), (2, .ptr 0 0)]]) [8, 9] (fun j => [(7, .cells [i64 j] 3), (6, .cells [i64 t] 3), (4, .cells [.val ev] 28), (3, .cells [.tt] 4), (2, .cells [.ff] 4), (1, .cells [i64 x1] 3), (0, .cells [i64 H.unit, i64 H.blocks, .sq 5 o6 0 6 H.m .no, .val vc] 25)]) 11 0 (Nat.zero_le _) [0, 1, 2, 3, 4, 5, 6, 7, 8, 9, 10] rfl rfl (by clear ih; simp [conj, less_rfl, stAfter, ren_vrow, renR_vrow, ren_orow, renR_orow, ren_urow, renR_urow]) ?_
    rintro j hj ih2
    refine goT hB4 [(37, 8)] 400 rfl (by clear ih ih2; first | exact conj_nil | simp [conj]) ?_
    by_cases hjl : j < H.nc + 1
    · have ih2 := ih2 (j + 1) (by omega) (by omega)
      refine run_tt (by simp; omega) ?_
      refine goT hB4 [] 400 rfl (by clear ih ih2; simp [conj]; omega) ?_
      have e0 : 0 + ((j : Nat) : Int).toNat = j := by omega
      rw [e0]
      have hlE := EI_len H j H.m
      refine run_callCK (cloneO_hck K3 (EV j) (EI H j H.m).length (lrow (EI H j H.m)) (by omega) (hEV3 j (by omega))) named hB4 hK4 [] rfl rfl rfl rfl (by first | exact conj_nil | simp [conj]) (by clear ih ih2; simp [conj, less_rfl]) ?_
      rintro ⟨⟩ _
      refine ⟨show 0 ≤ 1 by omega, _, _, _, rfl, rfl, rfl, ?_⟩
      refine goT hB4 [] 400 rfl (by clear ih ih2; first | exact conj_nil | simp [conj]) ?_
      refine run_yield 9 rfl rfl (by first | exact conj_nil | simp [conj]) rfl rfl rfl ?_
      refine goT hB4 [] 400 rfl (by clear ih ih2; first | exact conj_nil | simp [conj]) ?_
      refine run_begin 9 rfl rfl rfl rfl ?_
      refine goT hB4 [(5, 62)] 400 rfl (by clear ih ih2; first | exact conj_nil | simp [conj]) ?_
      refine run_ff (by simp) ?_
      refine goT hB4 [] 400 rfl (by clear ih ih2; first | exact conj_nil | simp [conj]) ?_
      refine run_open hK4 66 h3.c (by decide) rfl (fun o8 => ?_)
      refine goT hB4 [(5, 68)] 400 rfl (by clear ih ih2; first | exact conj_nil | simp [conj]) ?_
      refine run_close (.inl rfl) ?_
      refine run_ff (by simp; omega) ?_
      refine goT hB4 [] 400 rfl (by clear ih ih2; first | exact conj_nil | simp [conj]) ?_
      refine run_loop ?_
      refine run_invK (ι := Nat) hpin4 (fun i => i ≤ H.m) (fun i => H.m - i) (fun i => [(13, i64 i), (12, i64 ((EI H j i).length : Nat)), (11, .sq 11 0 0 1 (EI H j H.m).length .own), (10, i64 j), (9, .ptr 7 0), (8, .ptr 6 0), (7, .clo (.func 37) [] [.ptr 4 0]), (6, .ptr 3 0), (4, .ptr 2 0), (3, .ptr 1 0), (2, .ptr 0 0)]) (fun _ => [[(7, i64 j), (6, i64 (H.nc + 1 : Nat)), (5, .sq 10 o7 0 1 (H.nc + 1) .no), (1, .ptr 4 0), (0, .clo (.yield l') [] [])], [(9, .ptr 7 0), (8, .ptr 6 0), (7, .clo (.func 37) [] [.ptr 4 0]), (6, .ptr 3 0), (4, .ptr 2 0), (3, .ptr 1 0), (2, .ptr 0 0)]]) [8, 9] (fun _ => [(11, .row 0 (EI H j H.m).length (EI H j H.m).length 1 (urow (lrow (EI H j H.m))) 3), (7, .cells [i64 j] 3), (6, .cells [i64 t] 3), (4, .cells [.val ev] 28), (3, .cells [.tt] 4), (2, .cells [.ff] 4), (1, .cells [i64 x1] 3), (0, .cells [i64 H.unit, i64 H.blocks, .sq 5 o6 0 6 H.m .no, .val vc] 25)]) 12 0 (Nat.zero_le _) [0, 1, 2, 3, 4, 5, 6, 7, 8, 9, 10, 11] rfl rfl (by clear ih ih2; simp [conj, less_rfl, stAfter, ren_vrow, renR_vrow, ren_orow, renR_orow, ren_urow, renR_urow]; rfl) ?_
      rintro i hi ih3
      refine goT hB4 [(5, 78)] 400 rfl (by clear ih ih2 ih3; first | exact conj_nil | simp [conj]) ?_
      by_cases hin : i < H.m
      · have e1 : 0 + ((i : Nat) : Int).toNat = i := by omega
        have ih3 := ih3 (i + 1) (by omega) (by omega)
        refine run_tt (by simpa using hin) ?_
        refine goT hB4 [] 400 rfl (by clear ih ih2 ih3; first | exact conj_nil | simp [conj]) ?_
        refine run_draw0 mixed (fun t' => ?_)
        refine run_drawK (M := modeJ) (kn := K3) hK4 1 10 rfl named hB4 (sumOk_nil _) [(19, ⟨20, [.agg [i64 H.unit, i64 H.blocks, .sq 0 o6 0 6 H.m .no, .val vc], i64 (H.op i).b], [], [(0, .row o6 H.m H.m 6 (orow H V) anyTy)], 1, i64 (ep H (H.op i).b), [], 1, [5]⟩)] ⟨⟨epochO_hck h3 (H.op i).b o6, rfl, Nat.le_refl _⟩, trivial⟩ rfl rfl rfl rfl rfl rfl (by clear ih ih2 ih3; simp [conj, less_rfl, SO.Live, hin, ren_orow, renR_orow]; exact .inl (by omega)) (fun t' => ?_)
        refine run_drawE rfl ?_
        by_cases hk : ep H (H.op i).b = j
        · have hg := EI_get hk hin
          have hg2 := hg.2
          rw [List.getD_eq_getElem?_getD] at hg2
          rw [EI_yes hk, List.length_append, List.length_singleton] at ih3
          refine run_ff (by clear ih ih2 ih3; simp; omega) ?_
          refine goT hB4 [(5, 94)] 400 rfl (by clear ih ih2 ih3; first | exact conj_nil | simp [conj]) ?_
          refine run_ff (by clear ih ih2 ih3; simp; omega) ?_
          refine goT hB4 [(5, 101)] 400 rfl (by clear ih ih2 ih3; simp [conj]; omega) ?_
          refine run_ff (by clear ih ih2 ih3; simp [lrow, hg2]) ?_
          refine goT hB4 [] 400 rfl (by clear ih ih2 ih3; simp [conj, Fits_i64]; omega) ?_
          refine run_back ?_
          refine run_to hpin4 [0, 1, 2, 3, 4, 5, 6, 7, 8, 9, 10, 11] rfl rfl ?_ ih3
          clear ih ih2 ih3
          simp [conj, less_rfl, stAfter, ren_vrow, renR_vrow, ren_orow, renR_orow, ren_urow, renR_urow]
        · rw [EI_no hk] at ih3
          refine run_tt (by clear ih ih2 ih3; simp; omega) ?_
          refine goT hB4 [] 400 rfl (by clear ih ih2 ih3; simp [conj, Fits_i64]; omega) ?_
          refine run_back ?_
          refine run_to hpin4 [0, 1, 2, 3, 4, 5, 6, 7, 8, 9, 10, 11] rfl rfl ?_ ih3
          clear ih ih2 ih3
          simp [conj, less_rfl, stAfter, ren_vrow, renR_vrow, ren_orow, renR_orow, ren_urow, renR_urow]
      clear ih3
      have him : i = H.m := by omega
      subst him
      refine run_ff (by simp) ?_
      refine goT hB4 [(5, 108)] 400 rfl (by clear ih ih2; first | exact conj_nil | simp [conj]) ?_
      refine run_ff (by simp) ?_
      refine goT hB4 [(5, 112)] 400 rfl (by clear ih ih2; simp [conj, Fits_i64]; omega) ?_
      by_cases ht0 : t = 0
      · refine run_tt (by clear ih ih2; simp; omega) ?_
        refine goT hB4 [(5, 116)] 400 rfl (by clear ih ih2; first | exact conj_nil | simp [conj]) ?_
        by_cases hst : (j : Int) + 1 = x1
        · clear ih2
          refine run_tt (by clear ih; simp; omega) ?_
          refine goT hB4 [] 400 rfl (by clear ih; first | exact conj_nil | simp [conj]) ?_
          skip
          refine run_round 9 (.exit _ _ rfl) rfl rfl rfl rfl ?_
          refine goT hB4 [] 400 rfl (by clear ih; first | exact conj_nil | simp [conj]) ?_
          refine run_inR [] (.inl rfl) trivial rfl rfl (by first | exact conj_nil | simp [conj]) ?_
          refine run_endR 9 rfl rfl (by decide) rfl ?_
          have hN : t = 0 ∨ j + 1 = H.nc + 1 := .inl ht0
          refine run_close (.inl rfl) ?_
          refine run_aside hB3 hK3 hpin3 (by decide) rfl rfl (fun hDa hDb B7 K7 hF7 hp7 hK7 hK7o => ?_)
          have hB7 := hF7.ok
          have hK7' := hF7.le
          have h7 := h3.mono fun b o e => hF7.old b o e (fun h => h)
          have hpin7 : PinTo B7 6 := hpin3.fz hF7 hp7
          have hDB : B.D D = none := by
            cases e : B.D D with
            | none => rfl
            | some o => rw [hF3.keep D o (by rw [hD2]; exact hF1.keep D o e (fun h => h)) (fun h => h)] at hDa; cases hDa
          have hDK : K D = none := by
            cases e : K D with
            | none => rfl
            | some o => rw [hK D o e] at hDB; cases hDB
          have ih := ih (D :: Ds) B7 K7 (hF3.trans0 hF7 hK2 fun _ h => h.elim) hpin7 ⟨by omega, List.nodup_cons.2 ⟨(fun e => by rw [(hDs D e).1] at hDb; cases hDb), hDn⟩, fun d hd => by
            rcases List.mem_cons.1 hd with rfl | hd
            · exact ⟨hK7, hDB, hDK⟩
            · exact ⟨hF7.old d _ (hDs d hd).1 (fun h => h), (hDs d hd).2⟩⟩
          refine goT hB7 [(5, 119)] 400 rfl (by clear ih; first | exact conj_nil | simp [conj]) ?_
          by_cases ht1 : t = 1
          · refine run_tt (by clear ih; simp; omega) ?_
            refine goT hB7 [] 400 rfl (by clear ih; first | exact conj_nil | simp [conj]) ?_
            refine run_open hK7' 126 h7.c (by decide) rfl (fun o9 => ?_)
            refine goT hB7 [(5, 129)] 400 rfl (by clear ih; simp [conj, Fits_i64] <;> omega) ?_
            refine run_close (.inl rfl) ?_
            refine run_ff (by clear ih; simp <;> omega) ?_
            refine goT hB7 [] 400 rfl (by clear ih; simp [conj, Fits_i64] <;> omega) ?_
            refine run_back ?_
            skip
            refine run_to (hdf := dfKeep_coll _ _ (D :: Ds)) hpin7 [0, 1, 2, 3, 4, 5, 13] rfl rfl ?_ ih
            clear ih
            simp [conj, less_rfl, stAfter, ren_vrow, renR_vrow, ren_orow, renR_orow, ren_urow, renR_urow]
          · refine run_ff (by clear ih; simp; omega) ?_
            refine goT hB7 [] 400 rfl (by clear ih; simp [conj, Fits_i64] <;> omega) ?_
            refine run_back ?_
            skip
            refine run_to (hdf := dfKeep_coll _ _ (D :: Ds)) hpin7 [0, 1, 2, 3, 4, 5, 12] rfl rfl ?_ ih
            clear ih
            simp [conj, less_rfl, stAfter, ren_vrow, renR_vrow, ren_orow, renR_orow, ren_urow, renR_urow]
        · clear ih
          refine run_ff (by clear ih2; simp; omega) ?_
          refine goT hB4 [] 400 rfl (by clear ih2; first | exact conj_nil | simp [conj]) ?_
          refine run_round 9 .off rfl rfl rfl rfl ?_
          refine goT hB4 [] 400 rfl (by clear ih2; simp [conj, Fits_i64] <;> omega) ?_
          refine run_back ?_
          refine run_to hpin4 [0, 1, 2, 3, 4, 5, 6, 7, 8, 9, 10] rfl rfl ?_ ih2
          clear ih2
          simp [conj, less_rfl, stAfter, ren_vrow, renR_vrow, ren_orow, renR_orow, ren_urow, renR_urow]
      · clear ih
        refine run_ff (by clear ih2; simp; omega) ?_
        refine goT hB4 [] 400 rfl (by clear ih2; first | exact conj_nil | simp [conj]) ?_
        refine run_round 9 .off rfl rfl rfl rfl ?_
        refine goT hB4 [] 400 rfl (by clear ih2; simp [conj, Fits_i64] <;> omega) ?_
        refine run_back ?_
        refine run_to hpin4 [0, 1, 2, 3, 4, 5, 6, 7, 8, 9, 10] rfl rfl ?_ ih2
        clear ih2
        simp [conj, less_rfl, stAfter, ren_vrow, renR_vrow, ren_orow, renR_orow, ren_urow, renR_urow]
    clear ih2
    have hjn : j = H.nc + 1 := by omega
    subst hjn
    refine run_ff (by simp) ?_
    refine goT hB4 [] 400 rfl (by clear ih; first | exact conj_nil | simp [conj]) ?_
    refine run_inR [] (.inl rfl) trivial rfl rfl (by first | exact conj_nil | simp [conj]) ?_
    refine run_endR 9 rfl rfl (by decide) rfl ?_
    have hN : t = 0 ∨ H.nc + 1 = H.nc + 1 := .inr rfl
    refine run_close (.inl rfl) ?_
    refine run_aside hB3 hK3 hpin3 (by decide) rfl rfl (fun hDa hDb B7 K7 hF7 hp7 hK7 hK7o => ?_)
    have hB7 := hF7.ok
    have hK7' := hF7.le
    have h7 := h3.mono fun b o e => hF7.old b o e (fun h => h)
    have hpin7 : PinTo B7 6 := hpin3.fz hF7 hp7
    have hDB : B.D D = none := by
      cases e : B.D D with
      | none => rfl
      | some o => rw [hF3.keep D o (by rw [hD2]; exact hF1.keep D o e (fun h => h)) (fun h => h)] at hDa; cases hDa
    have hDK : K D = none := by
      cases e : K D with
      | none => rfl
      | some o => rw [hK D o e] at hDB; cases hDB
    have ih := ih (D :: Ds) B7 K7 (hF3.trans0 hF7 hK2 fun _ h => h.elim) hpin7 ⟨by omega, List.nodup_cons.2 ⟨(fun e => by rw [(hDs D e).1] at hDb; cases hDb), hDn⟩, fun d hd => by
      rcases List.mem_cons.1 hd with rfl | hd
      · exact ⟨hK7, hDB, hDK⟩
      · exact ⟨hF7.old d _ (hDs d hd).1 (fun h => h), (hDs d hd).2⟩⟩
    refine goT hB7 [(5, 119)] 400 rfl (by clear ih; first | exact conj_nil | simp [conj]) ?_
    by_cases ht1 : t = 1
    · refine run_tt (by clear ih; simp; omega) ?_
      refine goT hB7 [] 400 rfl (by clear ih; first | exact conj_nil | simp [conj]) ?_
      refine run_open hK7' 126 h7.c (by decide) rfl (fun o9 => ?_)
      refine goT hB7 [(5, 129)] 400 rfl (by clear ih; simp [conj, Fits_i64] <;> omega) ?_
      refine run_close (.inl rfl) ?_
      refine run_ff (by clear ih; simp <;> omega) ?_
      refine goT hB7 [] 400 rfl (by clear ih; simp [conj, Fits_i64] <;> omega) ?_
      refine run_back ?_
      skip
      refine run_to (hdf := dfKeep_coll _ _ (D :: Ds)) hpin7 [0, 1, 2, 3, 4, 5, 12] rfl rfl ?_ ih
      clear ih
      simp [conj, less_rfl, stAfter, ren_vrow, renR_vrow, ren_orow, renR_orow, ren_urow, renR_urow]
    · refine run_ff (by clear ih; simp; omega) ?_
      refine goT hB7 [] 400 rfl (by clear ih; simp [conj, Fits_i64] <;> omega) ?_
      refine run_back ?_
      skip
      refine run_to (hdf := dfKeep_coll _ _ (D :: Ds)) hpin7 [0, 1, 2, 3, 4, 5, 11] rfl rfl ?_ ih
      clear ih
      simp [conj, less_rfl, stAfter, ren_vrow, renR_vrow, ren_orow, renR_orow, ren_urow, renR_urow]
  · have hbvt : bv = false := by
        cases e : bv with
        | false => rfl
        | true => exact absurd (hbv.1 e) hv
    subst hbvt
    refine run_callCK (epochs_no h' hv) named hB hK [] rfl rfl rfl rfl (by first | exact conj_nil | simp [conj]) (by simp [conj, less_rfl]) ?_
    rintro ⟨⟩ _
    refine ⟨show 0 ≤ 1 by omega, _, _, _, rfl, rfl, rfl, ?_⟩
    have h1 := h'
    refine goT hB [] 400 rfl (by first | exact conj_nil | simp [conj]) ?_
    refine run_to hpin [0, 1, 2, 4, 5] (nx' := 5) (rest' := []) (sl' := [(7, .clo (.func 37) [] [.ptr 4 0]), (6, .ptr 3 0), (4, .ptr 2 0), (3, .ptr 1 0), (2, .ptr 0 0)]) (hp' := [(4, .cells [.nilsl] 28), (3, .cells [.ff] 4), (2, .cells [.ff] 4), (1, .cells [i64 x1] 3), (0, hC H vo vc)]) rfl rfl (by simp [conj, less_rfl]) ?_
    refine run_draw0 mixed (fun t => ?_)
    refine run_drawK (M := modeJ) (kn := K) hK 1 8 rfl named hB (sumOk_nil _) [(6, ⟨18, [hA H vo vc], [], [], 0, .sb false, [], 0, []⟩)] ⟨⟨valid_hck h1 false (by simp [hv]), rfl, Nat.le_refl _⟩, trivial⟩ rfl rfl rfl rfl rfl rfl (by simp [conj, less_rfl, SO.Live, isFn41, isBo4]) (fun t => ?_)
    refine run_drawE rfl ?_
    refine run_to hpin [0, 1, 2, 3, 4] (nx' := 5) (rest' := []) (sl' := [(52, .ff), (7, .clo (.func 37) [] [.ptr 4 0]), (6, .ptr 3 0), (4, .ptr 2 0), (3, .ptr 1 0), (2, .ptr 0 0)]) (hp' := [(4, .cells [.nilsl] 28), (3, .cells [.ff] 4), (2, .cells [.ff] 4), (1, .cells [i64 x1] 3), (0, hC H vo vc)]) rfl rfl (by simp [conj, less_rfl] <;> exact Less.rfl) ?_
    skip
    refine run_openBN hK 0 2 h1.o (by decide) rfl rfl (fun _ => rfl) (fun _ => rfl) hpin (Nat.zero_le _) (fun o6 B2 hM2 hD2 hpin2 hkn2 => ?_)
    have hB2 : B2.ok := by intro x o hx; rw [hM2.w]; rw [hD2] at hx; exact hB x o hx
    have hK2 : ∀ b o, K b = some o → B2.D b = some o := fun b o e => by rw [hD2]; exact hK b o e
    have hF2 : Fz B2 K M0 B2 K := .refl hB2 hK2
    refine goT hB2 [] 400 rfl (by first | exact conj_nil | simp [conj]) ?_
    refine run_loop ?_
    refine run_to hpin2 [0, 1, 2, 3, 4, 5, 6] (nx' := 7) (rest' := []) (sl' := [(8, .ptr 6 0), (7, .clo (.func 37) [] [.ptr 4 0]), (6, .ptr 3 0), (4, .ptr 2 0), (3, .ptr 1 0), (2, .ptr 0 0)]) (hp' := [(6, .cells [i64 ((0 : Nat) : Int)] 3), (4, .cells [.nilsl] 28), (3, .cells [.ff] 4), (2, .cells [.ff] 4), (1, .cells [i64 x1] 3), (0, .cells [i64 H.unit, i64 H.blocks, .sq 5 o6 0 6 H.m .no, .val vc] 25)]) rfl rfl (by simp [conj, less_rfl, ren_orow, renR_orow]) ?_
    refine run_invXD (ι := Nat × List Nat) hF2 hpin2 (fun x K' => x.1 ≤ 2 ∧ x.2.Nodup ∧ ∀ d ∈ x.2, K' d = some noCalls ∧ B.D d = none ∧ K d = none) (fun x => 2 - x.1) (fun x => ⟨5, none, collD x.2⟩) (fun _ => [(8, .ptr 6 0), (7, .clo (.func 37) [] [.ptr 4 0]), (6, .ptr 3 0), (4, .ptr 2 0), (3, .ptr 1 0), (2, .ptr 0 0)]) (fun _ => []) (fun x => [(6, .cells [i64 x.1] 3), (4, .cells [.nilsl] 28), (3, .cells [.ff] 4), (2, .cells [.ff] 4), (1, .cells [i64 x1] 3), (0, .cells [i64 H.unit, i64 H.blocks, .sq 5 o6 0 6 H.m .no, .val vc] 25)]) (0, []) ⟨Nat.zero_le _, List.nodup_nil, fun d hd => by cases hd⟩ ?_
    rintro ⟨t, Ds⟩ B3 K3 hF3 hpin3 ⟨ht, hDn, hDs⟩ ih
    dsimp only at ht hDn hDs ih ⊢
    have hB3 := hF3.ok
    have hK3 := hF3.le
    have h3 := h1.mono fun b o e => hF3.old b o e (fun h => h)
    refine goT hB3 [(5, 54)] 400 rfl (by clear ih; first | exact conj_nil | simp [conj]) ?_
    by_cases htl : t < 2
    rotate_left
    · clear ih
      refine run_ff (by simp; omega) ?_
      refine goT hB3 [] 400 rfl (by first | exact conj_nil | simp [conj]) ?_
      refine run_callCK (known_hck (K := K3)) named hB3 hK3 [] rfl rfl rfl rfl (by first | exact conj_nil | simp [conj]) (by simp [conj, less_rfl]) ?_
      rintro ⟨⟩ _
      refine ⟨show 0 ≤ 0 by omega, _, _, _, rfl, rfl, rfl, ?_⟩
      refine goT hB3 [] 2 rfl (by first | exact conj_nil | simp [conj]) ?_
      skip
      refine run_close (.inl rfl) ?_
      obtain ⟨hFu, hMu⟩ := hF3.unpin hM2
      refine run_unpin hMu ?_
      refine run_retZ (ro := []) (hF0.trans0 hFu hK fun _ h => h.elim) (np := 0) ⟨hpin.p, hFu.kd.trans hpin.k⟩ () (fun _ => trivial) (fun i s q => by simp [hget] at q) hDn hDs [] rfl rfl (by first | exact conj_nil | simp [conj]) rfl ?_ hB
      simp [conj, less_rfl]
    have ih := fun Ds' B'' K'' a b c => ih (t + 1, Ds') B'' K'' a b c (by show 2 - (t + 1) < 2 - t; omega)
    dsimp only at ih
    refine run_tt (by simp; omega) ?_
    refine goT hB3 [] 400 rfl (by clear ih; first | exact conj_nil | simp [conj]) ?_
    refine run_range named hB3 rfl rfl (by first | exact conj_nil | simp [conj]) rfl rfl rfl rfl ?_
    intro D l'
    have hB4 : (B3.pin2 8 D l').ok := Base.pin2_ok hB3
    have hpin4 : PinTo (B3.pin2 8 D l') 10 := hpin3.pin2 (by omega)
    have hK4 : ∀ b o, K3 b = some o → (B3.pin2 8 D l').D b = some o := hK3
    refine goT hB4 [] 400 rfl (by clear ih; first | exact conj_nil | simp [conj]) ?_
    refine run_loop ?_
    refine goT hB4 [] 400 rfl (by clear ih; first | exact conj_nil | simp [conj]) ?_
    skip
    refine run_inR [] (.inl rfl) trivial rfl rfl (by first | exact conj_nil | simp [conj]) ?_
    refine run_endR 9 rfl rfl (by decide) rfl ?_
    refine run_aside hB3 hK3 hpin3 (by decide) rfl rfl (fun hDa hDb B7 K7 hF7 hp7 hK7 hK7o => ?_)
    have hB7 := hF7.ok
    have hK7' := hF7.le
    have h7 := h3.mono fun b o e => hF7.old b o e (fun h => h)
    have hpin7 : PinTo B7 6 := hpin3.fz hF7 hp7
    have hDB : B.D D = none := by
      cases e : B.D D with
      | none => rfl
      | some o => rw [hF3.keep D o (by rw [hD2]; exact hF0.keep D o e (fun h => h)) (fun h => h)] at hDa; cases hDa
    have hDK : K D = none := by
      cases e : K D with
      | none => rfl
      | some o => rw [hK D o e] at hDB; cases hDB
    have ih := ih (D :: Ds) B7 K7 (hF3.trans0 hF7 hK2 fun _ h => h.elim) hpin7 ⟨by omega, List.nodup_cons.2 ⟨(fun e => by rw [(hDs D e).1] at hDb; cases hDb), hDn⟩, fun d hd => by
      rcases List.mem_cons.1 hd with rfl | hd
      · exact ⟨hK7, hDB, hDK⟩
      · exact ⟨hF7.old d _ (hDs d hd).1 (fun h => h), (hDs d hd).2⟩⟩
    refine goT hB7 [(5, 119)] 400 rfl (by clear ih; first | exact conj_nil | simp [conj]) ?_
    by_cases ht1 : t = 1
    · refine run_tt (by clear ih; simp; omega) ?_
      refine goT hB7 [] 400 rfl (by clear ih; simp [conj, Fits_i64] <;> omega) ?_
      refine run_back ?_
      skip
      refine run_to (hdf := dfKeep_coll _ _ (D :: Ds)) hpin7 [0, 1, 2, 3, 4, 5, 10] rfl rfl ?_ ih
      clear ih
      simp [conj, less_rfl, stAfter, ren_vrow, renR_vrow, ren_orow, renR_orow, ren_urow, renR_urow]
    · refine run_ff (by clear ih; simp; omega) ?_
      refine goT hB7 [] 400 rfl (by clear ih; simp [conj, Fits_i64] <;> omega) ?_
      refine run_back ?_
      skip
      refine run_to (hdf := dfKeep_coll _ _ (D :: Ds)) hpin7 [0, 1, 2, 3, 4, 5, 10] rfl rfl ?_ ih
      clear ih
      simp [conj, less_rfl, stAfter, ren_vrow, renR_vrow, ren_orow, renR_orow, ren_urow, renR_urow]
end Sx
