/- Package reserve: Acquire at any reservation, without a preemption. Conditions: as each theorem says. -/
import Derived.Test.YtmnlmghchegjaaaRwf
set_option linter.unusedSimpArgs false
set_option linter.unusedVariables false
namespace Sx
open Go Go.Proofs
set_option maxRecDepth 100000
set_option pp.deepTerms true
set_option pp.maxSteps 10000000
abbrev AccC (K : Kn) (s : RSt) (z0 : NSt) (host a kind cur other : Int) (c : Int) (vs : List Int) (s' : RSt) : Prop :=
  HCX Try.prog K M0 14 [.ptr 0 0, u64 host, i64 a, i64 kind, u64 cur, u64 other] (hpS s z0) [] 3 (fun (z : NSt) K' => NOK K' z.h z.V s'.N) (fun z => ⟨.tup [.sq 5 0 0 1 vs.length .no, stC c], hpT s' z ++ [(5, .row 0 vs.length vs.length 1 (fnr (lsD vs)) 23)], 6⟩)
theorem sharedS_hc (T : Int) : HC Try.prog 72 [.ptr 0 0] [] [(0, .cells [.und, .und, i64 T, .und, .und, .und] 46)] 1 (fun _ : Unit => True) (fun _ => ⟨.sb (decide (5 ≤ T)), [], 1⟩) := by
  refine hc_of_run Try.func72 rfl (fun B hB hpin => ?_)
  refine goP hB rfl rfl (by simp [conj, isPt25]) ?_
  exact run_retC hpin () trivial [0] rfl rfl (by simp [conj]) rfl (by simp [conj, less_rfl])
def rcS (T : Int) (i : Nat) : RC := ⟨72, [.ptr 0 0], [], [(0, .cells [.und, .und, i64 T, .und, .und, .und] 46)], 1, .sb (decide (5 ≤ T)), [], 1, [i]⟩
theorem rcS_ok (T : Int) (i : Nat) : RcOk Try.prog (rcS T i) := ⟨sharedS_hc T, rfl, Nat.le_refl _⟩
set_option maxHeartbeats 4000000 in
theorem acc_zero (K : Kn) (s : RSt) (z0 : NSt) (hNK : NOK K z0.h z0.V s.N) (host a kind cur other : Int) (ha : host = 0) : AccC K s z0 host a kind cur other 2 [] s := by
  obtain ⟨hN, V⟩ := z0
  obtain ⟨h, v, T, H, G, p, N⟩ := s
  refine hcx_of_run Try.func14 rfl (fun B hB hK hpin => ?_)
  have hF0 : Fz B K M0 B K := .refl hB hK
  refine goY hB [(40, 13)] 3000 rfl (by simp [conj, Fits_i64, isBo4, isPt25, isMp43, isMp44, isIf20]) ?_
  refine run_ff (by simpa using ha) ?_
  refine goY hB [] 3000 rfl (by simp [conj, Fits_i64, isBo4, isPt25, isMp43, isMp44, isIf20]) ?_
  refine run_retF hF0 hpin (⟨hN, V⟩ : NSt) hNK [0, 1, 2, 1, 2, 99] rfl rfl (by simp [conj]) rfl ?_
  simp [conj, less_rfl, ren_val, gen1, ren_fnr, renR_fnr]
set_option maxHeartbeats 4000000 in
theorem acc_act (K : Kn) (s : RSt) (z0 : NSt) (hNK : NOK K z0.h z0.V s.N) (host a kind cur other : Int) (ha : host ≠ 0) (hq : ¬ (0 ≤ a ∧ a ≤ 2 ∧ 1 ≤ kind ∧ kind ≤ 6)) : AccC K s z0 host a kind cur other 2 [] s := by
  obtain ⟨hN, V⟩ := z0
  obtain ⟨h, v, T, H, G, p, N⟩ := s
  refine hcx_of_run Try.func14 rfl (fun B hB hK hpin => ?_)
  have hF0 : Fz B K M0 B K := .refl hB hK
  refine goY hB [(40, 13)] 3000 rfl (by simp [conj, Fits_i64, isBo4, isPt25, isMp43, isMp44, isIf20]) ?_
  refine run_tt (by simpa using ha) ?_
  refine goY hB [] 3000 rfl (by simp [conj, Fits_i64, isBo4, isPt25, isMp43, isMp44, isIf20]) ?_
  refine run_draw0 mixed (fun t => ?_)
  refine run_drawC (M := modeY) 1 14 rfl named hB (sumOk_nil _) [(16, rcV hN V 1), (21, rcK h v 2)] ⟨rcV_ok _ _ _, rcK_ok _ _ _, trivial⟩ rfl rfl rfl rfl rfl rfl (by simp [conj, less_rfl, SO.Live, ren_val]) (fun t => ?_)
  refine run_drawE rfl ?_
  refine goY hB [(41, 9)] 3000 rfl (by simp [conj, Fits_i64, isBo4, isPt25, isMp43, isMp44, isIf20]) ?_
  refine goP hB rfl rfl (by simp [conj, Fits_i64, isBo4, isPt25, isMp43, isMp44, isIf20] <;> first | omega | exact fun a b => ⟨a, b⟩ | skip) ?_
  refine run_tt (by simp; omega) ?_
  refine goY hB [] 3000 rfl (by simp [conj, Fits_i64, isBo4, isPt25, isMp43, isMp44, isIf20]) ?_
  refine run_retF hF0 hpin (⟨hN, V⟩ : NSt) hNK [0, 1, 2, 1, 2, 99] rfl rfl (by simp [conj]) rfl ?_
  simp [conj, less_rfl, ren_val, gen1, ren_fnr, renR_fnr]
set_option maxHeartbeats 4000000 in
theorem acc_no (K : Kn) (s : RSt) (z0 : NSt) (hNK : NOK K z0.h z0.V s.N) (host a kind cur other : Int) (ha : host ≠ 0) (hq : 0 ≤ a ∧ a ≤ 2 ∧ 1 ≤ kind ∧ kind ≤ 6) (hc : (s.h host && decide (s.v host = cur)) = false) : AccC K s z0 host a kind cur other 131 [] s := by
  obtain ⟨hN, V⟩ := z0
  obtain ⟨h, v, T, H, G, p, N⟩ := s
  refine hcx_of_run Try.func14 rfl (fun B hB hK hpin => ?_)
  have hF0 : Fz B K M0 B K := .refl hB hK
  have hc : (h host && decide (v host = cur)) = false := hc
  refine goY hB [(40, 13)] 3000 rfl (by simp [conj, Fits_i64, isBo4, isPt25, isMp43, isMp44, isIf20]) ?_
  refine run_tt (by simpa using ha) ?_
  refine goY hB [] 3000 rfl (by simp [conj, Fits_i64, isBo4, isPt25, isMp43, isMp44, isIf20]) ?_
  refine run_draw0 mixed (fun t => ?_)
  refine run_drawC (M := modeY) 1 14 rfl named hB (sumOk_nil _) [(16, rcV hN V 1), (21, rcK h v 2)] ⟨rcV_ok _ _ _, rcK_ok _ _ _, trivial⟩ rfl rfl rfl rfl rfl rfl (by simp [conj, less_rfl, SO.Live, ren_val]) (fun t => ?_)
  refine run_drawE rfl ?_
  refine goY hB [(41, 9)] 3000 rfl (by simp [conj, Fits_i64, isBo4, isPt25, isMp43, isMp44, isIf20]) ?_
  refine goP hB rfl rfl (by simp [conj, Fits_i64, isBo4, isPt25, isMp43, isMp44, isIf20] <;> first | omega | exact fun a b => ⟨a, b⟩ | skip) ?_
  refine run_ff (by simp; omega) ?_
  refine goY hB [(43, 18)] 3000 rfl (by simp [conj, Fits_i64, isBo4, isPt25, isMp43, isMp44, isIf20]) ?_
  refine goP hB rfl rfl (by simp [conj, Fits_i64, isBo4, isPt25, isMp43, isMp44, isIf20] <;> first | omega | exact fun a b => ⟨a, b⟩ | skip) ?_
  refine run_tt (by first | rw [nkn, hc]; rfl | rw [nkn0, hc]; rfl) ?_
  refine goY hB [] 3000 rfl (by simp [conj, Fits_i64, isBo4, isPt25, isMp43, isMp44, isIf20]) ?_
  refine run_retF hF0 hpin (⟨hN, V⟩ : NSt) hNK [0, 1, 2, 1, 2, 99] rfl rfl (by simp [conj]) rfl ?_
  simp [conj, less_rfl, ren_val, gen1, ren_fnr, renR_fnr]
set_option maxHeartbeats 4000000 in
theorem acc_new (K : Kn) (s : RSt) (z0 : NSt) (hNK : NOK K z0.h z0.V s.N) (host a kind cur other : Int) (ha : host ≠ 0) (hq : 0 ≤ a ∧ a ≤ 2 ∧ 1 ≤ kind ∧ kind ≤ 6) (hc : (s.h host && decide (s.v host = cur)) = true) (h0 : a = 0) (hT : s.T ≤ 0) : AccC K s z0 host a kind cur other 0 [] { s with T := kind, H := host } := by
  obtain ⟨hN, V⟩ := z0
  obtain ⟨h, v, T, H, G, p, N⟩ := s
  refine hcx_of_run Try.func14 rfl (fun B hB hK hpin => ?_)
  have hF0 : Fz B K M0 B K := .refl hB hK
  have hT : T ≤ 0 := hT
  have hc : (h host && decide (v host = cur)) = true := hc
  refine goY hB [(40, 13)] 3000 rfl (by simp [conj, Fits_i64, isBo4, isPt25, isMp43, isMp44, isIf20]) ?_
  refine run_tt (by simpa using ha) ?_
  refine goY hB [] 3000 rfl (by simp [conj, Fits_i64, isBo4, isPt25, isMp43, isMp44, isIf20]) ?_
  refine run_draw0 mixed (fun t => ?_)
  refine run_drawC (M := modeY) 1 14 rfl named hB (sumOk_nil _) [(16, rcV hN V 1), (21, rcK h v 2)] ⟨rcV_ok _ _ _, rcK_ok _ _ _, trivial⟩ rfl rfl rfl rfl rfl rfl (by simp [conj, less_rfl, SO.Live, ren_val]) (fun t => ?_)
  refine run_drawE rfl ?_
  refine goY hB [(41, 9)] 3000 rfl (by simp [conj, Fits_i64, isBo4, isPt25, isMp43, isMp44, isIf20]) ?_
  refine goP hB rfl rfl (by simp [conj, Fits_i64, isBo4, isPt25, isMp43, isMp44, isIf20] <;> first | omega | exact fun a b => ⟨a, b⟩ | skip) ?_
  refine run_ff (by simp; omega) ?_
  refine goY hB [(43, 18)] 3000 rfl (by simp [conj, Fits_i64, isBo4, isPt25, isMp43, isMp44, isIf20]) ?_
  refine goP hB rfl rfl (by simp [conj, Fits_i64, isBo4, isPt25, isMp43, isMp44, isIf20] <;> first | omega | exact fun a b => ⟨a, b⟩ | skip) ?_
  refine run_ff (by first | rw [nkn, hc]; rfl | rw [nkn0, hc]; rfl) ?_
  refine goY hB [(41, 28)] 3000 rfl (by simp [conj, Fits_i64, isBo4, isPt25, isMp43, isMp44, isIf20]) ?_
  refine run_tt (by simpa using h0) ?_
  refine goY hB [(44, 10)] 3000 rfl (by simp [conj, Fits_i64, isBo4, isPt25, isMp43, isMp44, isIf20]) ?_
  refine run_ff (by simp; omega) ?_
  refine goY hB [] 3000 rfl (by simp [conj, Fits_i64, isBo4, isPt25, isMp43, isMp44, isIf20]) ?_
  refine run_retF hF0 hpin (⟨hN, V⟩ : NSt) hNK [0, 1, 2, 16, 21, 99] rfl rfl (by simp [conj]) rfl ?_
  simp [conj, less_rfl, ren_val, gen1, ren_fnr, renR_fnr]
set_option maxHeartbeats 4000000 in
theorem acc_kind (K : Kn) (s : RSt) (z0 : NSt) (hNK : NOK K z0.h z0.V s.N) (host a kind cur other : Int) (ha : host ≠ 0) (hq : 0 ≤ a ∧ a ≤ 2 ∧ 1 ≤ kind ∧ kind ≤ 6) (hc : (s.h host && decide (s.v host = cur)) = true) (h0 : a = 0) (hT : 0 < s.T) (hk : s.T ≠ kind) : AccC K s z0 host a kind cur other 131 [] s := by
  obtain ⟨hN, V⟩ := z0
  obtain ⟨h, v, T, H, G, p, N⟩ := s
  refine hcx_of_run Try.func14 rfl (fun B hB hK hpin => ?_)
  have hF0 : Fz B K M0 B K := .refl hB hK
  have hT : 0 < T := hT
  have hk : T ≠ kind := hk
  have hc : (h host && decide (v host = cur)) = true := hc
  refine goY hB [(40, 13)] 3000 rfl (by simp [conj, Fits_i64, isBo4, isPt25, isMp43, isMp44, isIf20]) ?_
  refine run_tt (by simpa using ha) ?_
  refine goY hB [] 3000 rfl (by simp [conj, Fits_i64, isBo4, isPt25, isMp43, isMp44, isIf20]) ?_
  refine run_draw0 mixed (fun t => ?_)
  refine run_drawC (M := modeY) 1 14 rfl named hB (sumOk_nil _) [(16, rcV hN V 1), (21, rcK h v 2)] ⟨rcV_ok _ _ _, rcK_ok _ _ _, trivial⟩ rfl rfl rfl rfl rfl rfl (by simp [conj, less_rfl, SO.Live, ren_val]) (fun t => ?_)
  refine run_drawE rfl ?_
  refine goY hB [(41, 9)] 3000 rfl (by simp [conj, Fits_i64, isBo4, isPt25, isMp43, isMp44, isIf20]) ?_
  refine goP hB rfl rfl (by simp [conj, Fits_i64, isBo4, isPt25, isMp43, isMp44, isIf20] <;> first | omega | exact fun a b => ⟨a, b⟩ | skip) ?_
  refine run_ff (by simp; omega) ?_
  refine goY hB [(43, 18)] 3000 rfl (by simp [conj, Fits_i64, isBo4, isPt25, isMp43, isMp44, isIf20]) ?_
  refine goP hB rfl rfl (by simp [conj, Fits_i64, isBo4, isPt25, isMp43, isMp44, isIf20] <;> first | omega | exact fun a b => ⟨a, b⟩ | skip) ?_
  refine run_ff (by first | rw [nkn, hc]; rfl | rw [nkn0, hc]; rfl) ?_
  refine goY hB [(41, 28)] 3000 rfl (by simp [conj, Fits_i64, isBo4, isPt25, isMp43, isMp44, isIf20]) ?_
  refine run_tt (by simpa using h0) ?_
  refine goY hB [(44, 10)] 3000 rfl (by simp [conj, Fits_i64, isBo4, isPt25, isMp43, isMp44, isIf20]) ?_
  refine run_tt (by simp; omega) ?_
  refine goY hB [(44, 16)] 3000 rfl (by simp [conj, Fits_i64, isBo4, isPt25, isMp43, isMp44, isIf20]) ?_
  refine run_ff (by simpa using hk) ?_
  refine goY hB [] 3000 rfl (by simp [conj, Fits_i64, isBo4, isPt25, isMp43, isMp44, isIf20]) ?_
  refine run_retF hF0 hpin (⟨hN, V⟩ : NSt) hNK [0, 1, 2, 1, 2, 99] rfl rfl (by simp [conj]) rfl ?_
  simp [conj, less_rfl, ren_val, gen1, ren_fnr, renR_fnr]
set_option maxHeartbeats 4000000 in
theorem acc_not (K : Kn) (s : RSt) (z0 : NSt) (hNK : NOK K z0.h z0.V s.N) (host a kind cur other : Int) (ha : host ≠ 0) (hq : 0 ≤ a ∧ a ≤ 2 ∧ 1 ≤ kind ∧ kind ≤ 6) (hc : (s.h host && decide (s.v host = cur)) = true) (h0 : a = 0) (hT : 0 < s.T) (hk : s.T = kind) (hh : hld s.h s.T s.H host = false) : AccC K s z0 host a kind cur other 131 [] s := by
  obtain ⟨hN, V⟩ := z0
  obtain ⟨h, v, T, H, G, p, N⟩ := s
  refine hcx_of_run Try.func14 rfl (fun B hB hK hpin => ?_)
  have hF0 : Fz B K M0 B K := .refl hB hK
  have hT : 0 < T := hT
  have hk : T = kind := hk
  have hc : (h host && decide (v host = cur)) = true := hc
  refine goY hB [(40, 13)] 3000 rfl (by simp [conj, Fits_i64, isBo4, isPt25, isMp43, isMp44, isIf20]) ?_
  refine run_tt (by simpa using ha) ?_
  refine goY hB [] 3000 rfl (by simp [conj, Fits_i64, isBo4, isPt25, isMp43, isMp44, isIf20]) ?_
  refine run_draw0 mixed (fun t => ?_)
  refine run_drawC (M := modeY) 1 14 rfl named hB (sumOk_nil _) [(16, rcV hN V 1), (21, rcK h v 2)] ⟨rcV_ok _ _ _, rcK_ok _ _ _, trivial⟩ rfl rfl rfl rfl rfl rfl (by simp [conj, less_rfl, SO.Live, ren_val]) (fun t => ?_)
  refine run_drawE rfl ?_
  refine goY hB [(41, 9)] 3000 rfl (by simp [conj, Fits_i64, isBo4, isPt25, isMp43, isMp44, isIf20]) ?_
  refine goP hB rfl rfl (by simp [conj, Fits_i64, isBo4, isPt25, isMp43, isMp44, isIf20] <;> first | omega | exact fun a b => ⟨a, b⟩ | skip) ?_
  refine run_ff (by simp; omega) ?_
  refine goY hB [(43, 18)] 3000 rfl (by simp [conj, Fits_i64, isBo4, isPt25, isMp43, isMp44, isIf20]) ?_
  refine goP hB rfl rfl (by simp [conj, Fits_i64, isBo4, isPt25, isMp43, isMp44, isIf20] <;> first | omega | exact fun a b => ⟨a, b⟩ | skip) ?_
  refine run_ff (by first | rw [nkn, hc]; rfl | rw [nkn0, hc]; rfl) ?_
  refine goY hB [(41, 28)] 3000 rfl (by simp [conj, Fits_i64, isBo4, isPt25, isMp43, isMp44, isIf20]) ?_
  refine run_tt (by simpa using h0) ?_
  refine goY hB [(44, 10)] 3000 rfl (by simp [conj, Fits_i64, isBo4, isPt25, isMp43, isMp44, isIf20]) ?_
  refine run_tt (by simp; omega) ?_
  refine goY hB [(44, 16)] 3000 rfl (by simp [conj, Fits_i64, isBo4, isPt25, isMp43, isMp44, isIf20]) ?_
  refine run_tt (by simpa using hk) ?_
  refine goY hB [] 3000 rfl (by simp [conj, Fits_i64, isBo4, isPt25, isMp43, isMp44, isIf20]) ?_
  refine run_callC (holds_hc h v T H host) named hB [11, 21] rfl rfl rfl rfl (by simp [conj]) (by simp [conj, less_rfl]) ?_
  rintro ⟨⟩ _
  refine ⟨show 2 ≤ 2 by omega, _, _, _, rfl, rfl, rfl, ?_⟩
  refine run_ff hh ?_
  refine goY hB [] 3000 rfl (by simp [conj, Fits_i64, isBo4, isPt25, isMp43, isMp44, isIf20]) ?_
  refine run_retF hF0 hpin (⟨hN, V⟩ : NSt) hNK [0, 1, 2, 1, 2, 99] rfl rfl (by simp [conj]) rfl ?_
  simp [conj, less_rfl, ren_val, gen1, ren_fnr, renR_fnr]
set_option maxHeartbeats 4000000 in
theorem acc_same (K : Kn) (s : RSt) (z0 : NSt) (hNK : NOK K z0.h z0.V s.N) (host a kind cur other : Int) (ha : host ≠ 0) (hq : 0 ≤ a ∧ a ≤ 2 ∧ 1 ≤ kind ∧ kind ≤ 6) (hc : (s.h host && decide (s.v host = cur)) = true) (h0 : a = 0) (hT : 0 < s.T) (hk : s.T = kind) (hh : hld s.h s.T s.H host = true) : AccC K s z0 host a kind cur other 0 [] s := by
  obtain ⟨hN, V⟩ := z0
  obtain ⟨h, v, T, H, G, p, N⟩ := s
  refine hcx_of_run Try.func14 rfl (fun B hB hK hpin => ?_)
  have hF0 : Fz B K M0 B K := .refl hB hK
  have hT : 0 < T := hT
  have hk : T = kind := hk
  have hc : (h host && decide (v host = cur)) = true := hc
  refine goY hB [(40, 13)] 3000 rfl (by simp [conj, Fits_i64, isBo4, isPt25, isMp43, isMp44, isIf20]) ?_
  refine run_tt (by simpa using ha) ?_
  refine goY hB [] 3000 rfl (by simp [conj, Fits_i64, isBo4, isPt25, isMp43, isMp44, isIf20]) ?_
  refine run_draw0 mixed (fun t => ?_)
  refine run_drawC (M := modeY) 1 14 rfl named hB (sumOk_nil _) [(16, rcV hN V 1), (21, rcK h v 2)] ⟨rcV_ok _ _ _, rcK_ok _ _ _, trivial⟩ rfl rfl rfl rfl rfl rfl (by simp [conj, less_rfl, SO.Live, ren_val]) (fun t => ?_)
  refine run_drawE rfl ?_
  refine goY hB [(41, 9)] 3000 rfl (by simp [conj, Fits_i64, isBo4, isPt25, isMp43, isMp44, isIf20]) ?_
  refine goP hB rfl rfl (by simp [conj, Fits_i64, isBo4, isPt25, isMp43, isMp44, isIf20] <;> first | omega | exact fun a b => ⟨a, b⟩ | skip) ?_
  refine run_ff (by simp; omega) ?_
  refine goY hB [(43, 18)] 3000 rfl (by simp [conj, Fits_i64, isBo4, isPt25, isMp43, isMp44, isIf20]) ?_
  refine goP hB rfl rfl (by simp [conj, Fits_i64, isBo4, isPt25, isMp43, isMp44, isIf20] <;> first | omega | exact fun a b => ⟨a, b⟩ | skip) ?_
  refine run_ff (by first | rw [nkn, hc]; rfl | rw [nkn0, hc]; rfl) ?_
  refine goY hB [(41, 28)] 3000 rfl (by simp [conj, Fits_i64, isBo4, isPt25, isMp43, isMp44, isIf20]) ?_
  refine run_tt (by simpa using h0) ?_
  refine goY hB [(44, 10)] 3000 rfl (by simp [conj, Fits_i64, isBo4, isPt25, isMp43, isMp44, isIf20]) ?_
  refine run_tt (by simp; omega) ?_
  refine goY hB [(44, 16)] 3000 rfl (by simp [conj, Fits_i64, isBo4, isPt25, isMp43, isMp44, isIf20]) ?_
  refine run_tt (by simpa using hk) ?_
  refine goY hB [] 3000 rfl (by simp [conj, Fits_i64, isBo4, isPt25, isMp43, isMp44, isIf20]) ?_
  refine run_callC (holds_hc h v T H host) named hB [11, 21] rfl rfl rfl rfl (by simp [conj]) (by simp [conj, less_rfl]) ?_
  rintro ⟨⟩ _
  refine ⟨show 2 ≤ 2 by omega, _, _, _, rfl, rfl, rfl, ?_⟩
  refine run_tt hh ?_
  refine goY hB [] 3000 rfl (by simp [conj, Fits_i64, isBo4, isPt25, isMp43, isMp44, isIf20]) ?_
  refine run_retF hF0 hpin (⟨hN, V⟩ : NSt) hNK [0, 1, 2, 16, 21, 99] rfl rfl (by simp [conj]) rfl ?_
  simp [conj, less_rfl, ren_val, gen1, ren_fnr, renR_fnr]
end Sx
