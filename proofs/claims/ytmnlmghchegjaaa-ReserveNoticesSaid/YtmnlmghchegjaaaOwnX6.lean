/- Texts of this law, joined: what the functions do. Conditions: as each theorem says. -/
import Derived.Test.YtmnlmghchegjaaaOwnX5
set_option linter.unusedSimpArgs false
set_option linter.unusedVariables false
section
/- Package reserve: Release at any reservation. Conditions: as each theorem says. -/
namespace Sx
open Go Go.Proofs
set_option maxRecDepth 100000
set_option pp.deepTerms true
set_option pp.maxSteps 10000000
abbrev cfY : List Nat := [37, 38, 81, 87, 85, 52, 53, 55, 56, 73, 75, 76]
def modeY : Mode := { st := true, unr := true, inl := fun f => !hasN f cfY, sum := sumOf [], keep := fun _ => none }
theorem goY {B : Base} (hB : B.ok) {ro : Hp} {f : FuncId} {R : Ending → World → Prop} (S : List (Nat × Nat)) (m : Nat) {cs : List Prop} {c c' : Cfg} (h : execY Try.prog modeY ro S m [] c = (cs, c')) (hc : conj cs)
    (hr : Run Try.prog ro B f R c') : Run Try.prog ro B f R c := run_goY mixed named hB (sumOk_nil _) S m h hc hr
theorem goP {B : Base} (hB : B.ok) {ro : Hp} {f : FuncId} {R : Ending → World → Prop} {cs0 cs : List Prop} {c c0 c' : Cfg} (h0 : stepD Try.prog modeY ro c = some (cs0, c0)) (h : execG Try.prog modeY ro 400 cs0 c0 = (cs, c')) (hc : conj cs)
    (hr : Run Try.prog ro B f R c') : Run Try.prog ro B f R c := run_go mixed named hB (sumOk_nil _) 400 h0 h hc hr
theorem nkn0 {b : Bool} {x y : Int} : (!(b && decide ((bif b then x else 0) = y))) = !(b && decide (x = y)) := by cases b <;> simp
/-- Release: the code and the reservation after it. -/
def relO (s : RSt) (l : List Int) (host a kind cur : Int) : Int × RSt :=
  if host = 0 ∨ ¬ (a = 0 ∨ a = 1) then (2, s)
  else if (s.h host && decide (s.v host = cur)) = false then (131, s)
  else if a = 1 then (0, { s with h := fun _ => false, T := 0, H := 0, G := gen1 s.G, N := addL s.N 3 (fl host l) })
  else if hld s.h s.T s.H host = true then (if s.T = kind then (0, { s with T := 0, H := 0, N := relN s.N s.T host l }) else (2, s))
  else (0, s)
abbrev RelC (K : Kn) (s : RSt) (z0 : NSt) (host a kind cur : Int) (o : Int × RSt) : Prop :=
  HCX Try.prog K M0 18 [.ptr 0 0, u64 host, i64 a, i64 kind, u64 cur] (hpS s z0) [] 3 (fun (z : NSt) K' => NOK K' z.h z.V o.2.N) (fun z => ⟨stC o.1, hpT o.2 z, 5⟩)
set_option maxHeartbeats 4000000 in
theorem rel_zero (K : Kn) (s : RSt) (z0 : NSt) (hNK : NOK K z0.h z0.V s.N) (host a kind cur : Int) (ha : host = 0) : RelC K s z0 host a kind cur (2, s) := by
  obtain ⟨hN, V⟩ := z0
  obtain ⟨h, v, T, H, G, p, N⟩ := s
  refine hcx_of_run Try.func18 rfl (fun B hB hK hpin => ?_)
  have hF0 : Fz B K M0 B K := .refl hB hK
  refine goY hB [(40, 13)] 3000 rfl (by simp [conj, Fits_i64, isBo4, isPt25, isMp43, isMp44, isIf20]) ?_
  refine run_ff (by simpa using ha) ?_
  refine goY hB [] 3000 rfl (by simp [conj, Fits_i64, isBo4, isPt25, isMp43, isMp44, isIf20]) ?_
  refine run_retF hF0 hpin (⟨hN, V⟩ : NSt) hNK [0, 1, 2, 1, 2] rfl rfl (by simp [conj]) rfl ?_
  simp [conj, less_rfl, ren_val, gen1]
set_option maxHeartbeats 4000000 in
theorem rel_act (K : Kn) (s : RSt) (z0 : NSt) (hNK : NOK K z0.h z0.V s.N) (host a kind cur : Int) (ha : host ≠ 0) (hq : ¬ (a = 0 ∨ a = 1)) : RelC K s z0 host a kind cur (2, s) := by
  obtain ⟨hN, V⟩ := z0
  obtain ⟨h, v, T, H, G, p, N⟩ := s
  refine hcx_of_run Try.func18 rfl (fun B hB hK hpin => ?_)
  have hF0 : Fz B K M0 B K := .refl hB hK
  refine goY hB [(40, 13)] 3000 rfl (by simp [conj, Fits_i64, isBo4, isPt25, isMp43, isMp44, isIf20]) ?_
  refine run_tt (by simpa using ha) ?_
  refine goY hB [] 3000 rfl (by simp [conj, Fits_i64, isBo4, isPt25, isMp43, isMp44, isIf20]) ?_
  refine run_draw0 mixed (fun t => ?_)
  refine run_drawC (M := modeY) 1 14 rfl named hB (sumOk_nil _) [(14, rcV hN V 1), (19, rcK h v 2)] ⟨rcV_ok _ _ _, rcK_ok _ _ _, trivial⟩ rfl rfl rfl rfl rfl rfl (by simp [conj, less_rfl, SO.Live, ren_val]) (fun t => ?_)
  refine run_drawE rfl ?_
  refine goY hB [(51, 7)] 3000 rfl (by simp [conj, Fits_i64, isBo4, isPt25, isMp43, isMp44, isIf20]) ?_
  refine goP hB rfl rfl (by simp [conj, Fits_i64, isBo4, isPt25, isMp43, isMp44, isIf20] <;> first | omega | exact fun a b => ⟨a, b⟩ | skip) ?_
  refine run_tt (by simp; omega) ?_
  refine goY hB [] 3000 rfl (by simp [conj, Fits_i64, isBo4, isPt25, isMp43, isMp44, isIf20]) ?_
  refine run_retF hF0 hpin (⟨hN, V⟩ : NSt) hNK [0, 1, 2, 1, 2] rfl rfl (by simp [conj]) rfl ?_
  simp [conj, less_rfl, ren_val, gen1]
set_option maxHeartbeats 4000000 in
theorem rel_no0 (K : Kn) (s : RSt) (z0 : NSt) (hNK : NOK K z0.h z0.V s.N) (host a kind cur : Int) (ha : host ≠ 0) (hq : a = 0) (hc : (s.h host && decide (s.v host = cur)) = false) : RelC K s z0 host a kind cur (131, s) := by
  obtain ⟨hN, V⟩ := z0
  obtain ⟨h, v, T, H, G, p, N⟩ := s
  refine hcx_of_run Try.func18 rfl (fun B hB hK hpin => ?_)
  have hF0 : Fz B K M0 B K := .refl hB hK
  subst hq
  have hc : (h host && decide (v host = cur)) = false := hc
  refine goY hB [(40, 13)] 3000 rfl (by simp [conj, Fits_i64, isBo4, isPt25, isMp43, isMp44, isIf20]) ?_
  refine run_tt (by simpa using ha) ?_
  refine goY hB [] 3000 rfl (by simp [conj, Fits_i64, isBo4, isPt25, isMp43, isMp44, isIf20]) ?_
  refine run_draw0 mixed (fun t => ?_)
  refine run_drawC (M := modeY) 1 14 rfl named hB (sumOk_nil _) [(14, rcV hN V 1), (19, rcK h v 2)] ⟨rcV_ok _ _ _, rcK_ok _ _ _, trivial⟩ rfl rfl rfl rfl rfl rfl (by simp [conj, less_rfl, SO.Live, ren_val]) (fun t => ?_)
  refine run_drawE rfl ?_
  refine goY hB [(43, 18)] 3000 rfl (by simp [conj, Fits_i64, isBo4, isPt25, isMp43, isMp44, isIf20]) ?_
  refine goP hB rfl rfl (by simp [conj, Fits_i64, isBo4, isPt25, isMp43, isMp44, isIf20] <;> first | omega | exact fun a b => ⟨a, b⟩ | skip) ?_
  refine run_tt (by first | rw [nkn, hc]; rfl | rw [nkn0, hc]; rfl) ?_
  refine goY hB [] 3000 rfl (by simp [conj, Fits_i64, isBo4, isPt25, isMp43, isMp44, isIf20]) ?_
  refine run_retF hF0 hpin (⟨hN, V⟩ : NSt) hNK [0, 1, 2, 1, 2] rfl rfl (by simp [conj]) rfl ?_
  simp [conj, less_rfl, ren_val, gen1]
set_option maxHeartbeats 4000000 in
theorem rel_no1 (K : Kn) (s : RSt) (z0 : NSt) (hNK : NOK K z0.h z0.V s.N) (host a kind cur : Int) (ha : host ≠ 0) (hq : a = 1) (hc : (s.h host && decide (s.v host = cur)) = false) : RelC K s z0 host a kind cur (131, s) := by
  obtain ⟨hN, V⟩ := z0
  obtain ⟨h, v, T, H, G, p, N⟩ := s
  refine hcx_of_run Try.func18 rfl (fun B hB hK hpin => ?_)
  have hF0 : Fz B K M0 B K := .refl hB hK
  subst hq
  have hc : (h host && decide (v host = cur)) = false := hc
  refine goY hB [(40, 13)] 3000 rfl (by simp [conj, Fits_i64, isBo4, isPt25, isMp43, isMp44, isIf20]) ?_
  refine run_tt (by simpa using ha) ?_
  refine goY hB [] 3000 rfl (by simp [conj, Fits_i64, isBo4, isPt25, isMp43, isMp44, isIf20]) ?_
  refine run_draw0 mixed (fun t => ?_)
  refine run_drawC (M := modeY) 1 14 rfl named hB (sumOk_nil _) [(14, rcV hN V 1), (19, rcK h v 2)] ⟨rcV_ok _ _ _, rcK_ok _ _ _, trivial⟩ rfl rfl rfl rfl rfl rfl (by simp [conj, less_rfl, SO.Live, ren_val]) (fun t => ?_)
  refine run_drawE rfl ?_
  refine goY hB [(43, 18)] 3000 rfl (by simp [conj, Fits_i64, isBo4, isPt25, isMp43, isMp44, isIf20]) ?_
  refine goP hB rfl rfl (by simp [conj, Fits_i64, isBo4, isPt25, isMp43, isMp44, isIf20] <;> first | omega | exact fun a b => ⟨a, b⟩ | skip) ?_
  refine run_tt (by first | rw [nkn, hc]; rfl | rw [nkn0, hc]; rfl) ?_
  refine goY hB [] 3000 rfl (by simp [conj, Fits_i64, isBo4, isPt25, isMp43, isMp44, isIf20]) ?_
  refine run_retF hF0 hpin (⟨hN, V⟩ : NSt) hNK [0, 1, 2, 1, 2] rfl rfl (by simp [conj]) rfl ?_
  simp [conj, less_rfl, ren_val, gen1]
set_option maxHeartbeats 4000000 in
theorem rel_clear (K : Kn) (s : RSt) (z0 : NSt) (hNK : NOK K z0.h z0.V s.N) (host a kind cur : Int) (l : List Int) (hkl : KeysOf s.h l) (hl : l.length < 129) (hN16 : ∀ a, (s.N a).length ≤ 16) (ha : host ≠ 0) (hq : a = 1) (hc : (s.h host && decide (s.v host = cur)) = true) : RelC K s z0 host a kind cur (0, { s with h := fun _ => false, T := 0, H := 0, G := gen1 s.G, N := addL s.N 3 (fl host l) }) := by
  obtain ⟨hN, V⟩ := z0
  obtain ⟨h, v, T, H, G, p, N⟩ := s
  refine hcx_of_run Try.func18 rfl (fun B hB hK hpin => ?_)
  have hF0 : Fz B K M0 B K := .refl hB hK
  subst hq
  have hc : (h host && decide (v host = cur)) = true := hc
  refine goY hB [(40, 13)] 3000 rfl (by simp [conj, Fits_i64, isBo4, isPt25, isMp43, isMp44, isIf20]) ?_
  refine run_tt (by simpa using ha) ?_
  refine goY hB [] 3000 rfl (by simp [conj, Fits_i64, isBo4, isPt25, isMp43, isMp44, isIf20]) ?_
  refine run_draw0 mixed (fun t => ?_)
  refine run_drawC (M := modeY) 1 14 rfl named hB (sumOk_nil _) [(14, rcV hN V 1), (19, rcK h v 2)] ⟨rcV_ok _ _ _, rcK_ok _ _ _, trivial⟩ rfl rfl rfl rfl rfl rfl (by simp [conj, less_rfl, SO.Live, ren_val]) (fun t => ?_)
  refine run_drawE rfl ?_
  refine goY hB [(43, 18)] 3000 rfl (by simp [conj, Fits_i64, isBo4, isPt25, isMp43, isMp44, isIf20]) ?_
  refine goP hB rfl rfl (by simp [conj, Fits_i64, isBo4, isPt25, isMp43, isMp44, isIf20] <;> first | omega | exact fun a b => ⟨a, b⟩ | skip) ?_
  refine run_ff (by first | rw [nkn, hc]; rfl | rw [nkn0, hc]; rfl) ?_
  refine goY hB [] 3000 rfl (by simp [conj, Fits_i64, isBo4, isPt25, isMp43, isMp44, isIf20]) ?_
  refine run_draw0 mixed (fun t => ?_)
  refine run_drawC (M := modeY) 1 7 rfl named hB (sumOk_nil _) [(30, rcO h v host l 9 19)] ⟨rcO_ok h v l hkl hl host 9 19, trivial⟩ rfl rfl rfl rfl rfl rfl ?_ (fun t => ?_)
  · simp [conj, less_rfl, SO.Live, isPt25]
  refine run_chain rfl rfl ?_
  refine run_callX (add_hcx K hN V N hNK hN16 3 (fl host l) (by have := fl_len host l; omega)) named hB hK (fun _ h => h.elim) (.inr fun _ h => h) [14, 30] rfl rfl rfl rfl (by simp [conj]) (by simp [conj, less_rfl, ren_val, ren_fnr, renR_fnr]) ?_
  rintro ⟨h2, V2⟩ B2 K2 hN2 hF2 hp2
  refine ⟨show 2 ≤ 2 by omega, _, _, _, rfl, rfl, rfl, ?_⟩
  have hB2 := hF2.ok
  refine goY hB2 [] 3000 rfl (by simp [conj, Fits_i64, isBo4, isPt25, isMp43, isMp44, isIf20]) ?_
  refine run_mclr rfl rfl (by simp [conj]) rfl rfl rfl ?_
  refine goY hB2 [] 3000 rfl (by simp [conj, Fits_i64, isBo4, isPt25, isMp43, isMp44, isIf20]) ?_
  refine run_retF hF2 (hpin.fz hF2 hp2) (⟨h2, V2⟩ : NSt) hN2 [0, 1, 2, 14, 19] rfl rfl (by simp [conj]) rfl ?_
  simp [conj, less_rfl, ren_val, gen1]
set_option maxHeartbeats 4000000 in
theorem rel_none (K : Kn) (s : RSt) (z0 : NSt) (hNK : NOK K z0.h z0.V s.N) (host a kind cur : Int) (ha : host ≠ 0) (hq : a = 0) (hc : (s.h host && decide (s.v host = cur)) = true) (hh : hld s.h s.T s.H host = false) : RelC K s z0 host a kind cur (0, s) := by
  obtain ⟨hN, V⟩ := z0
  obtain ⟨h, v, T, H, G, p, N⟩ := s
  refine hcx_of_run Try.func18 rfl (fun B hB hK hpin => ?_)
  have hF0 : Fz B K M0 B K := .refl hB hK
  subst hq
  have hc : (h host && decide (v host = cur)) = true := hc
  refine goY hB [(40, 13)] 3000 rfl (by simp [conj, Fits_i64, isBo4, isPt25, isMp43, isMp44, isIf20]) ?_
  refine run_tt (by simpa using ha) ?_
  refine goY hB [] 3000 rfl (by simp [conj, Fits_i64, isBo4, isPt25, isMp43, isMp44, isIf20]) ?_
  refine run_draw0 mixed (fun t => ?_)
  refine run_drawC (M := modeY) 1 14 rfl named hB (sumOk_nil _) [(14, rcV hN V 1), (19, rcK h v 2)] ⟨rcV_ok _ _ _, rcK_ok _ _ _, trivial⟩ rfl rfl rfl rfl rfl rfl (by simp [conj, less_rfl, SO.Live, ren_val]) (fun t => ?_)
  refine run_drawE rfl ?_
  refine goY hB [(43, 18)] 3000 rfl (by simp [conj, Fits_i64, isBo4, isPt25, isMp43, isMp44, isIf20]) ?_
  refine goP hB rfl rfl (by simp [conj, Fits_i64, isBo4, isPt25, isMp43, isMp44, isIf20] <;> first | omega | exact fun a b => ⟨a, b⟩ | skip) ?_
  refine run_ff (by first | rw [nkn, hc]; rfl | rw [nkn0, hc]; rfl) ?_
  refine goY hB [] 3000 rfl (by simp [conj, Fits_i64, isBo4, isPt25, isMp43, isMp44, isIf20]) ?_
  refine run_callC (holds_hc h v T H host) named hB [9, 19] rfl rfl rfl rfl (by simp [conj]) (by simp [conj, less_rfl]) ?_
  rintro ⟨⟩ _
  refine ⟨show 2 ≤ 2 by omega, _, _, _, rfl, rfl, rfl, ?_⟩
  refine run_ff hh ?_
  refine goY hB [] 3000 rfl (by simp [conj, Fits_i64, isBo4, isPt25, isMp43, isMp44, isIf20]) ?_
  refine run_retF hF0 hpin (⟨hN, V⟩ : NSt) hNK [0, 1, 2, 14, 19] rfl rfl (by simp [conj]) rfl ?_
  simp [conj, less_rfl, ren_val, gen1]
set_option maxHeartbeats 4000000 in
theorem rel_kind (K : Kn) (s : RSt) (z0 : NSt) (hNK : NOK K z0.h z0.V s.N) (host a kind cur : Int) (ha : host ≠ 0) (hq : a = 0) (hc : (s.h host && decide (s.v host = cur)) = true) (hh : hld s.h s.T s.H host = true) (hk : s.T ≠ kind) : RelC K s z0 host a kind cur (2, s) := by
  obtain ⟨hN, V⟩ := z0
  obtain ⟨h, v, T, H, G, p, N⟩ := s
  refine hcx_of_run Try.func18 rfl (fun B hB hK hpin => ?_)
  have hF0 : Fz B K M0 B K := .refl hB hK
  subst hq
  have hc : (h host && decide (v host = cur)) = true := hc
  have hk : T ≠ kind := hk
  refine goY hB [(40, 13)] 3000 rfl (by simp [conj, Fits_i64, isBo4, isPt25, isMp43, isMp44, isIf20]) ?_
  refine run_tt (by simpa using ha) ?_
  refine goY hB [] 3000 rfl (by simp [conj, Fits_i64, isBo4, isPt25, isMp43, isMp44, isIf20]) ?_
  refine run_draw0 mixed (fun t => ?_)
  refine run_drawC (M := modeY) 1 14 rfl named hB (sumOk_nil _) [(14, rcV hN V 1), (19, rcK h v 2)] ⟨rcV_ok _ _ _, rcK_ok _ _ _, trivial⟩ rfl rfl rfl rfl rfl rfl (by simp [conj, less_rfl, SO.Live, ren_val]) (fun t => ?_)
  refine run_drawE rfl ?_
  refine goY hB [(43, 18)] 3000 rfl (by simp [conj, Fits_i64, isBo4, isPt25, isMp43, isMp44, isIf20]) ?_
  refine goP hB rfl rfl (by simp [conj, Fits_i64, isBo4, isPt25, isMp43, isMp44, isIf20] <;> first | omega | exact fun a b => ⟨a, b⟩ | skip) ?_
  refine run_ff (by first | rw [nkn, hc]; rfl | rw [nkn0, hc]; rfl) ?_
  refine goY hB [] 3000 rfl (by simp [conj, Fits_i64, isBo4, isPt25, isMp43, isMp44, isIf20]) ?_
  refine run_callC (holds_hc h v T H host) named hB [9, 19] rfl rfl rfl rfl (by simp [conj]) (by simp [conj, less_rfl]) ?_
  rintro ⟨⟩ _
  refine ⟨show 2 ≤ 2 by omega, _, _, _, rfl, rfl, rfl, ?_⟩
  refine run_tt hh ?_
  refine goY hB [(51, 50)] 3000 rfl (by simp [conj, Fits_i64, isBo4, isPt25, isMp43, isMp44, isIf20]) ?_
  refine run_ff (by simpa using hk) ?_
  refine goY hB [] 3000 rfl (by simp [conj, Fits_i64, isBo4, isPt25, isMp43, isMp44, isIf20]) ?_
  refine run_retF hF0 hpin (⟨hN, V⟩ : NSt) hNK [0, 1, 2, 1, 2] rfl rfl (by simp [conj]) rfl ?_
  simp [conj, less_rfl, ren_val, gen1]
set_option maxHeartbeats 4000000 in
theorem rel_ok (K : Kn) (s : RSt) (z0 : NSt) (hNK : NOK K z0.h z0.V s.N) (host a kind cur : Int) (l : List Int) (hkl : KeysOf s.h l) (hl : l.length < 129) (hN16 : ∀ a, (s.N a).length ≤ 16) (ha : host ≠ 0) (hq : a = 0) (hc : (s.h host && decide (s.v host = cur)) = true) (hh : hld s.h s.T s.H host = true) (hk : s.T = kind) : RelC K s z0 host a kind cur (0, { s with T := 0, H := 0, N := relN s.N s.T host l }) := by
  obtain ⟨hN, V⟩ := z0
  obtain ⟨h, v, T, H, G, p, N⟩ := s
  refine hcx_of_run Try.func18 rfl (fun B hB hK hpin => ?_)
  have hF0 : Fz B K M0 B K := .refl hB hK
  subst hq
  have hc : (h host && decide (v host = cur)) = true := hc
  have hk : T = kind := hk
  refine goY hB [(40, 13)] 3000 rfl (by simp [conj, Fits_i64, isBo4, isPt25, isMp43, isMp44, isIf20]) ?_
  refine run_tt (by simpa using ha) ?_
  refine goY hB [] 3000 rfl (by simp [conj, Fits_i64, isBo4, isPt25, isMp43, isMp44, isIf20]) ?_
  refine run_draw0 mixed (fun t => ?_)
  refine run_drawC (M := modeY) 1 14 rfl named hB (sumOk_nil _) [(14, rcV hN V 1), (19, rcK h v 2)] ⟨rcV_ok _ _ _, rcK_ok _ _ _, trivial⟩ rfl rfl rfl rfl rfl rfl (by simp [conj, less_rfl, SO.Live, ren_val]) (fun t => ?_)
  refine run_drawE rfl ?_
  refine goY hB [(43, 18)] 3000 rfl (by simp [conj, Fits_i64, isBo4, isPt25, isMp43, isMp44, isIf20]) ?_
  refine goP hB rfl rfl (by simp [conj, Fits_i64, isBo4, isPt25, isMp43, isMp44, isIf20] <;> first | omega | exact fun a b => ⟨a, b⟩ | skip) ?_
  refine run_ff (by first | rw [nkn, hc]; rfl | rw [nkn0, hc]; rfl) ?_
  refine goY hB [] 3000 rfl (by simp [conj, Fits_i64, isBo4, isPt25, isMp43, isMp44, isIf20]) ?_
  refine run_callC (holds_hc h v T H host) named hB [9, 19] rfl rfl rfl rfl (by simp [conj]) (by simp [conj, less_rfl]) ?_
  rintro ⟨⟩ _
  refine ⟨show 2 ≤ 2 by omega, _, _, _, rfl, rfl, rfl, ?_⟩
  refine run_tt hh ?_
  refine goY hB [(51, 50)] 3000 rfl (by simp [conj, Fits_i64, isBo4, isPt25, isMp43, isMp44, isIf20]) ?_
  refine run_tt (by simpa using hk) ?_
  refine goY hB [] 3000 rfl (by simp [conj, Fits_i64, isBo4, isPt25, isMp43, isMp44, isIf20]) ?_
  refine run_callX (release_hcx K hN V N hNK hN16 h v l hkl hl T H G p host) named hB hK (fun _ h => h.elim) (.inr fun _ h => h) [9, 14, 19] rfl rfl rfl rfl (by simp [conj]) (by simp [conj, less_rfl, ren_val, ren_fnr, renR_fnr]) ?_
  rintro ⟨h2, V2⟩ B2 K2 hN2 hF2 hp2
  refine ⟨show 3 ≤ 3 by omega, _, _, _, rfl, rfl, rfl, ?_⟩
  have hB2 := hF2.ok
  refine goY hB2 [] 3000 rfl (by simp [conj, Fits_i64, isBo4, isPt25, isMp43, isMp44, isIf20]) ?_
  refine run_retF hF2 (hpin.fz hF2 hp2) (⟨h2, V2⟩ : NSt) hN2 [0, 1, 2, 14, 19] rfl rfl (by simp [conj]) rfl ?_
  simp [conj, less_rfl, ren_val, gen1]
theorem rel_hcx (K : Kn) (s : RSt) (z0 : NSt) (hNK : NOK K z0.h z0.V s.N) (l : List Int) (hkl : KeysOf s.h l) (hl : l.length < 129) (hN16 : ∀ a, (s.N a).length ≤ 16) (host a kind cur : Int) : RelC K s z0 host a kind cur (relO s l host a kind cur) := by
  unfold relO
  by_cases h0 : host = 0
  · rw [if_pos (.inl h0)]; exact rel_zero K s z0 hNK host a kind cur h0
  by_cases h1 : a = 0 ∨ a = 1
  · rw [if_neg (by simp [h0, h1])]
    cases hc : (s.h host && decide (s.v host = cur)) with
    | false =>
      rw [if_pos rfl]
      rcases h1 with h1 | h1
      · exact rel_no0 K s z0 hNK host a kind cur h0 h1 hc
      · exact rel_no1 K s z0 hNK host a kind cur h0 h1 hc
    | true =>
      rw [if_neg (by decide)]
      by_cases a1 : a = 1
      · rw [if_pos a1]; exact rel_clear K s z0 hNK host a kind cur l hkl hl hN16 h0 a1 hc
      rw [if_neg a1]
      have a0 : a = 0 := by omega
      cases hh : hld s.h s.T s.H host with
      | false => rw [if_neg (by decide)]; exact rel_none K s z0 hNK host a kind cur h0 a0 hc hh
      | true =>
        rw [if_pos rfl]
        by_cases hk : s.T = kind
        · rw [if_pos hk]; exact rel_ok K s z0 hNK host a kind cur l hkl hl hN16 h0 a0 hc hh hk
        · rw [if_neg hk]; exact rel_kind K s z0 hNK host a kind cur h0 a0 hc hh hk
  · rw [if_pos (.inr h1)]; exact rel_act K s z0 hNK host a kind cur h0 h1
end Sx
end
section
/- Package reserve: Acquire at any reservation, without a preemption. Conditions: as each theorem says. -/
namespace Sx
open Go Go.Proofs
set_option maxRecDepth 100000
set_option pp.deepTerms true
set_option pp.maxSteps 10000000
abbrev AccC (K : Kn) (s : RSt) (z0 : NSt) (host a kind cur other : Int) (c : Int) (vs : List Int) (s' : RSt) : Prop :=
  HCX Try.prog K M0 14 [.ptr 0 0, u64 host, i64 a, i64 kind, u64 cur, u64 other] (hpS s z0) [] 3 (fun (z : NSt) K' => NOK K' z.h z.V s'.N) (fun z => ⟨.tup [.sq 5 0 0 1 vs.length .no, stC c], hpT s' z ++ [(5, .row 0 vs.length vs.length 1 (fnr (lsD vs)) 23)], 6⟩)
theorem sharedS_hc (T : Int) : HC Try.prog 72 [.ptr 0 0] [] [(0, .cells [.und, .und, i64 T, .und, .und, .und] 46)] 1 (fun _ : Unit => True) (fun _ => ⟨.sb (decide (5 ≤ T)), [], 1⟩) := by
  refine hc_of_run Try.func72 rfl (fun B hB hpin => ?_)
  refine goP hB rfl rfl (by simp [conj, isPt25]) ?_
  exact run_retC hpin () trivial [0] rfl rfl (by simp [conj]) rfl (by simp [conj, less_rfl])
def rcS (T : Int) (i : Nat) : RC := ⟨72, [.ptr 0 0], [], [(0, .cells [.und, .und, i64 T, .und, .und, .und] 46)], 1, .sb (decide (5 ≤ T)), [], 1, [i]⟩
theorem rcS_ok (T : Int) (i : Nat) : RcOk Try.prog (rcS T i) := ⟨sharedS_hc T, rfl, Nat.le_refl _⟩
set_option maxHeartbeats 4000000 in
theorem acc_zero (K : Kn) (s : RSt) (z0 : NSt) (hNK : NOK K z0.h z0.V s.N) (host a kind cur other : Int) (ha : host = 0) : AccC K s z0 host a kind cur other 2 [] s := by
  obtain ⟨hN, V⟩ := z0
  obtain ⟨h, v, T, H, G, p, N⟩ := s
  refine hcx_of_run Try.func14 rfl (fun B hB hK hpin => ?_)
  have hF0 : Fz B K M0 B K := .refl hB hK
  refine goY hB [(40, 13)] 3000 rfl (by simp [conj, Fits_i64, isBo4, isPt25, isMp43, isMp44, isIf20]) ?_
  refine run_ff (by simpa using ha) ?_
  refine goY hB [] 3000 rfl (by simp [conj, Fits_i64, isBo4, isPt25, isMp43, isMp44, isIf20]) ?_
  refine run_retF hF0 hpin (⟨hN, V⟩ : NSt) hNK [0, 1, 2, 1, 2, 99] rfl rfl (by simp [conj]) rfl ?_
  simp [conj, less_rfl, ren_val, gen1, ren_fnr, renR_fnr]
set_option maxHeartbeats 4000000 in
theorem acc_act (K : Kn) (s : RSt) (z0 : NSt) (hNK : NOK K z0.h z0.V s.N) (host a kind cur other : Int) (ha : host ≠ 0) (hq : ¬ (0 ≤ a ∧ a ≤ 2 ∧ 1 ≤ kind ∧ kind ≤ 6)) : AccC K s z0 host a kind cur other 2 [] s := by
  obtain ⟨hN, V⟩ := z0
  obtain ⟨h, v, T, H, G, p, N⟩ := s
  refine hcx_of_run Try.func14 rfl (fun B hB hK hpin => ?_)
  have hF0 : Fz B K M0 B K := .refl hB hK
  refine goY hB [(40, 13)] 3000 rfl (by simp [conj, Fits_i64, isBo4, isPt25, isMp43, isMp44, isIf20]) ?_
  refine run_tt (by simpa using ha) ?_
  refine goY hB [] 3000 rfl (by simp [conj, Fits_i64, isBo4, isPt25, isMp43, isMp44, isIf20]) ?_
  refine run_draw0 mixed (fun t => ?_)
  refine run_drawC (M := modeY) 1 14 rfl named hB (sumOk_nil _) [(16, rcV hN V 1), (21, rcK h v 2)] ⟨rcV_ok _ _ _, rcK_ok _ _ _, trivial⟩ rfl rfl rfl rfl rfl rfl (by simp [conj, less_rfl, SO.Live, ren_val]) (fun t => ?_)
  refine run_drawE rfl ?_
  refine goY hB [(41, 9)] 3000 rfl (by simp [conj, Fits_i64, isBo4, isPt25, isMp43, isMp44, isIf20]) ?_
  refine goP hB rfl rfl (by simp [conj, Fits_i64, isBo4, isPt25, isMp43, isMp44, isIf20] <;> first | omega | exact fun a b => ⟨a, b⟩ | skip) ?_
  refine run_tt (by simp; omega) ?_
  refine goY hB [] 3000 rfl (by simp [conj, Fits_i64, isBo4, isPt25, isMp43, isMp44, isIf20]) ?_
  refine run_retF hF0 hpin (⟨hN, V⟩ : NSt) hNK [0, 1, 2, 1, 2, 99] rfl rfl (by simp [conj]) rfl ?_
  simp [conj, less_rfl, ren_val, gen1, ren_fnr, renR_fnr]
set_option maxHeartbeats 4000000 in
theorem acc_no (K : Kn) (s : RSt) (z0 : NSt) (hNK : NOK K z0.h z0.V s.N) (host a kind cur other : Int) (ha : host ≠ 0) (hq : 0 ≤ a ∧ a ≤ 2 ∧ 1 ≤ kind ∧ kind ≤ 6) (hc : (s.h host && decide (s.v host = cur)) = false) : AccC K s z0 host a kind cur other 131 [] s := by
  obtain ⟨hN, V⟩ := z0
  obtain ⟨h, v, T, H, G, p, N⟩ := s
  refine hcx_of_run Try.func14 rfl (fun B hB hK hpin => ?_)
  have hF0 : Fz B K M0 B K := .refl hB hK
  have hc : (h host && decide (v host = cur)) = false := hc
  refine goY hB [(40, 13)] 3000 rfl (by simp [conj, Fits_i64, isBo4, isPt25, isMp43, isMp44, isIf20]) ?_
  refine run_tt (by simpa using ha) ?_
  refine goY hB [] 3000 rfl (by simp [conj, Fits_i64, isBo4, isPt25, isMp43, isMp44, isIf20]) ?_
  refine run_draw0 mixed (fun t => ?_)
  refine run_drawC (M := modeY) 1 14 rfl named hB (sumOk_nil _) [(16, rcV hN V 1), (21, rcK h v 2)] ⟨rcV_ok _ _ _, rcK_ok _ _ _, trivial⟩ rfl rfl rfl rfl rfl rfl (by simp [conj, less_rfl, SO.Live, ren_val]) (fun t => ?_)
  refine run_drawE rfl ?_
  refine goY hB [(41, 9)] 3000 rfl (by simp [conj, Fits_i64, isBo4, isPt25, isMp43, isMp44, isIf20]) ?_
  refine goP hB rfl rfl (by simp [conj, Fits_i64, isBo4, isPt25, isMp43, isMp44, isIf20] <;> first | omega | exact fun a b => ⟨a, b⟩ | skip) ?_
  refine run_ff (by simp; omega) ?_
  refine goY hB [(43, 18)] 3000 rfl (by simp [conj, Fits_i64, isBo4, isPt25, isMp43, isMp44, isIf20]) ?_
  refine goP hB rfl rfl (by simp [conj, Fits_i64, isBo4, isPt25, isMp43, isMp44, isIf20] <;> first | omega | exact fun a b => ⟨a, b⟩ | skip) ?_
  refine run_tt (by first | rw [nkn, hc]; rfl | rw [nkn0, hc]; rfl) ?_
  refine goY hB [] 3000 rfl (by simp [conj, Fits_i64, isBo4, isPt25, isMp43, isMp44, isIf20]) ?_
  refine run_retF hF0 hpin (⟨hN, V⟩ : NSt) hNK [0, 1, 2, 1, 2, 99] rfl rfl (by simp [conj]) rfl ?_
  simp [conj, less_rfl, ren_val, gen1, ren_fnr, renR_fnr]
set_option maxHeartbeats 4000000 in
theorem acc_new (K : Kn) (s : RSt) (z0 : NSt) (hNK : NOK K z0.h z0.V s.N) (host a kind cur other : Int) (ha : host ≠ 0) (hq : 0 ≤ a ∧ a ≤ 2 ∧ 1 ≤ kind ∧ kind ≤ 6) (hc : (s.h host && decide (s.v host = cur)) = true) (h0 : a = 0) (hT : s.T ≤ 0) : AccC K s z0 host a kind cur other 0 [] { s with T := kind, H := host } := by
  obtain ⟨hN, V⟩ := z0
  obtain ⟨h, v, T, H, G, p, N⟩ := s
  refine hcx_of_run Try.func14 rfl (fun B hB hK hpin => ?_)
  have hF0 : Fz B K M0 B K := .refl hB hK
  have hT : T ≤ 0 := hT
  have hc : (h host && decide (v host = cur)) = true := hc
  refine goY hB [(40, 13)] 3000 rfl (by simp [conj, Fits_i64, isBo4, isPt25, isMp43, isMp44, isIf20]) ?_
  refine run_tt (by simpa using ha) ?_
  refine goY hB [] 3000 rfl (by simp [conj, Fits_i64, isBo4, isPt25, isMp43, isMp44, isIf20]) ?_
  refine run_draw0 mixed (fun t => ?_)
  refine run_drawC (M := modeY) 1 14 rfl named hB (sumOk_nil _) [(16, rcV hN V 1), (21, rcK h v 2)] ⟨rcV_ok _ _ _, rcK_ok _ _ _, trivial⟩ rfl rfl rfl rfl rfl rfl (by simp [conj, less_rfl, SO.Live, ren_val]) (fun t => ?_)
  refine run_drawE rfl ?_
  refine goY hB [(41, 9)] 3000 rfl (by simp [conj, Fits_i64, isBo4, isPt25, isMp43, isMp44, isIf20]) ?_
  refine goP hB rfl rfl (by simp [conj, Fits_i64, isBo4, isPt25, isMp43, isMp44, isIf20] <;> first | omega | exact fun a b => ⟨a, b⟩ | skip) ?_
  refine run_ff (by simp; omega) ?_
  refine goY hB [(43, 18)] 3000 rfl (by simp [conj, Fits_i64, isBo4, isPt25, isMp43, isMp44, isIf20]) ?_
  refine goP hB rfl rfl (by simp [conj, Fits_i64, isBo4, isPt25, isMp43, isMp44, isIf20] <;> first | omega | exact fun a b => ⟨a, b⟩ | skip) ?_
  refine run_ff (by first | rw [nkn, hc]; rfl | rw [nkn0, hc]; rfl) ?_
  refine goY hB [(41, 28)] 3000 rfl (by simp [conj, Fits_i64, isBo4, isPt25, isMp43, isMp44, isIf20]) ?_
  refine run_tt (by simpa using h0) ?_
  refine goY hB [(44, 10)] 3000 rfl (by simp [conj, Fits_i64, isBo4, isPt25, isMp43, isMp44, isIf20]) ?_
  refine run_ff (by simp; omega) ?_
  refine goY hB [] 3000 rfl (by simp [conj, Fits_i64, isBo4, isPt25, isMp43, isMp44, isIf20]) ?_
  refine run_retF hF0 hpin (⟨hN, V⟩ : NSt) hNK [0, 1, 2, 16, 21, 99] rfl rfl (by simp [conj]) rfl ?_
  simp [conj, less_rfl, ren_val, gen1, ren_fnr, renR_fnr]
set_option maxHeartbeats 4000000 in
theorem acc_kind (K : Kn) (s : RSt) (z0 : NSt) (hNK : NOK K z0.h z0.V s.N) (host a kind cur other : Int) (ha : host ≠ 0) (hq : 0 ≤ a ∧ a ≤ 2 ∧ 1 ≤ kind ∧ kind ≤ 6) (hc : (s.h host && decide (s.v host = cur)) = true) (h0 : a = 0) (hT : 0 < s.T) (hk : s.T ≠ kind) : AccC K s z0 host a kind cur other 131 [] s := by
  obtain ⟨hN, V⟩ := z0
  obtain ⟨h, v, T, H, G, p, N⟩ := s
  refine hcx_of_run Try.func14 rfl (fun B hB hK hpin => ?_)
  have hF0 : Fz B K M0 B K := .refl hB hK
  have hT : 0 < T := hT
  have hk : T ≠ kind := hk
  have hc : (h host && decide (v host = cur)) = true := hc
  refine goY hB [(40, 13)] 3000 rfl (by simp [conj, Fits_i64, isBo4, isPt25, isMp43, isMp44, isIf20]) ?_
  refine run_tt (by simpa using ha) ?_
  refine goY hB [] 3000 rfl (by simp [conj, Fits_i64, isBo4, isPt25, isMp43, isMp44, isIf20]) ?_
  refine run_draw0 mixed (fun t => ?_)
  refine run_drawC (M := modeY) 1 14 rfl named hB (sumOk_nil _) [(16, rcV hN V 1), (21, rcK h v 2)] ⟨rcV_ok _ _ _, rcK_ok _ _ _, trivial⟩ rfl rfl rfl rfl rfl rfl (by simp [conj, less_rfl, SO.Live, ren_val]) (fun t => ?_)
  refine run_drawE rfl ?_
  refine goY hB [(41, 9)] 3000 rfl (by simp [conj, Fits_i64, isBo4, isPt25, isMp43, isMp44, isIf20]) ?_
  refine goP hB rfl rfl (by simp [conj, Fits_i64, isBo4, isPt25, isMp43, isMp44, isIf20] <;> first | omega | exact fun a b => ⟨a, b⟩ | skip) ?_
  refine run_ff (by simp; omega) ?_
  refine goY hB [(43, 18)] 3000 rfl (by simp [conj, Fits_i64, isBo4, isPt25, isMp43, isMp44, isIf20]) ?_
  refine goP hB rfl rfl (by simp [conj, Fits_i64, isBo4, isPt25, isMp43, isMp44, isIf20] <;> first | omega | exact fun a b => ⟨a, b⟩ | skip) ?_
  refine run_ff (by first | rw [nkn, hc]; rfl | rw [nkn0, hc]; rfl) ?_
  refine goY hB [(41, 28)] 3000 rfl (by simp [conj, Fits_i64, isBo4, isPt25, isMp43, isMp44, isIf20]) ?_
  refine run_tt (by simpa using h0) ?_
  refine goY hB [(44, 10)] 3000 rfl (by simp [conj, Fits_i64, isBo4, isPt25, isMp43, isMp44, isIf20]) ?_
  refine run_tt (by simp; omega) ?_
  refine goY hB [(44, 16)] 3000 rfl (by simp [conj, Fits_i64, isBo4, isPt25, isMp43, isMp44, isIf20]) ?_
  refine run_ff (by simpa using hk) ?_
  refine goY hB [] 3000 rfl (by simp [conj, Fits_i64, isBo4, isPt25, isMp43, isMp44, isIf20]) ?_
  refine run_retF hF0 hpin (⟨hN, V⟩ : NSt) hNK [0, 1, 2, 1, 2, 99] rfl rfl (by simp [conj]) rfl ?_
  simp [conj, less_rfl, ren_val, gen1, ren_fnr, renR_fnr]
set_option maxHeartbeats 4000000 in
theorem acc_not (K : Kn) (s : RSt) (z0 : NSt) (hNK : NOK K z0.h z0.V s.N) (host a kind cur other : Int) (ha : host ≠ 0) (hq : 0 ≤ a ∧ a ≤ 2 ∧ 1 ≤ kind ∧ kind ≤ 6) (hc : (s.h host && decide (s.v host = cur)) = true) (h0 : a = 0) (hT : 0 < s.T) (hk : s.T = kind) (hh : hld s.h s.T s.H host = false) : AccC K s z0 host a kind cur other 131 [] s := by
  obtain ⟨hN, V⟩ := z0
  obtain ⟨h, v, T, H, G, p, N⟩ := s
  refine hcx_of_run Try.func14 rfl (fun B hB hK hpin => ?_)
  have hF0 : Fz B K M0 B K := .refl hB hK
  have hT : 0 < T := hT
  have hk : T = kind := hk
  have hc : (h host && decide (v host = cur)) = true := hc
  refine goY hB [(40, 13)] 3000 rfl (by simp [conj, Fits_i64, isBo4, isPt25, isMp43, isMp44, isIf20]) ?_
  refine run_tt (by simpa using ha) ?_
  refine goY hB [] 3000 rfl (by simp [conj, Fits_i64, isBo4, isPt25, isMp43, isMp44, isIf20]) ?_
  refine run_draw0 mixed (fun t => ?_)
  refine run_drawC (M := modeY) 1 14 rfl named hB (sumOk_nil _) [(16, rcV hN V 1), (21, rcK h v 2)] ⟨rcV_ok _ _ _, rcK_ok _ _ _, trivial⟩ rfl rfl rfl rfl rfl rfl (by simp [conj, less_rfl, SO.Live, ren_val]) (fun t => ?_)
  refine run_drawE rfl ?_
  refine goY hB [(41, 9)] 3000 rfl (by simp [conj, Fits_i64, isBo4, isPt25, isMp43, isMp44, isIf20]) ?_
  refine goP hB rfl rfl (by simp [conj, Fits_i64, isBo4, isPt25, isMp43, isMp44, isIf20] <;> first | omega | exact fun a b => ⟨a, b⟩ | skip) ?_
  refine run_ff (by simp; omega) ?_
  refine goY hB [(43, 18)] 3000 rfl (by simp [conj, Fits_i64, isBo4, isPt25, isMp43, isMp44, isIf20]) ?_
  refine goP hB rfl rfl (by simp [conj, Fits_i64, isBo4, isPt25, isMp43, isMp44, isIf20] <;> first | omega | exact fun a b => ⟨a, b⟩ | skip) ?_
  refine run_ff (by first | rw [nkn, hc]; rfl | rw [nkn0, hc]; rfl) ?_
  refine goY hB [(41, 28)] 3000 rfl (by simp [conj, Fits_i64, isBo4, isPt25, isMp43, isMp44, isIf20]) ?_
  refine run_tt (by simpa using h0) ?_
  refine goY hB [(44, 10)] 3000 rfl (by simp [conj, Fits_i64, isBo4, isPt25, isMp43, isMp44, isIf20]) ?_
  refine run_tt (by simp; omega) ?_
  refine goY hB [(44, 16)] 3000 rfl (by simp [conj, Fits_i64, isBo4, isPt25, isMp43, isMp44, isIf20]) ?_
  refine run_tt (by simpa using hk) ?_
  refine goY hB [] 3000 rfl (by simp [conj, Fits_i64, isBo4, isPt25, isMp43, isMp44, isIf20]) ?_
  refine run_callC (holds_hc h v T H host) named hB [11, 21] rfl rfl rfl rfl (by simp [conj]) (by simp [conj, less_rfl]) ?_
  rintro ⟨⟩ _
  refine ⟨show 2 ≤ 2 by omega, _, _, _, rfl, rfl, rfl, ?_⟩
  refine run_ff hh ?_
  refine goY hB [] 3000 rfl (by simp [conj, Fits_i64, isBo4, isPt25, isMp43, isMp44, isIf20]) ?_
  refine run_retF hF0 hpin (⟨hN, V⟩ : NSt) hNK [0, 1, 2, 1, 2, 99] rfl rfl (by simp [conj]) rfl ?_
  simp [conj, less_rfl, ren_val, gen1, ren_fnr, renR_fnr]
set_option maxHeartbeats 4000000 in
theorem acc_same (K : Kn) (s : RSt) (z0 : NSt) (hNK : NOK K z0.h z0.V s.N) (host a kind cur other : Int) (ha : host ≠ 0) (hq : 0 ≤ a ∧ a ≤ 2 ∧ 1 ≤ kind ∧ kind ≤ 6) (hc : (s.h host && decide (s.v host = cur)) = true) (h0 : a = 0) (hT : 0 < s.T) (hk : s.T = kind) (hh : hld s.h s.T s.H host = true) : AccC K s z0 host a kind cur other 0 [] s := by
  obtain ⟨hN, V⟩ := z0
  obtain ⟨h, v, T, H, G, p, N⟩ := s
  refine hcx_of_run Try.func14 rfl (fun B hB hK hpin => ?_)
  have hF0 : Fz B K M0 B K := .refl hB hK
  have hT : 0 < T := hT
  have hk : T = kind := hk
  have hc : (h host && decide (v host = cur)) = true := hc
  refine goY hB [(40, 13)] 3000 rfl (by simp [conj, Fits_i64, isBo4, isPt25, isMp43, isMp44, isIf20]) ?_
  refine run_tt (by simpa using ha) ?_
  refine goY hB [] 3000 rfl (by simp [conj, Fits_i64, isBo4, isPt25, isMp43, isMp44, isIf20]) ?_
  refine run_draw0 mixed (fun t => ?_)
  refine run_drawC (M := modeY) 1 14 rfl named hB (sumOk_nil _) [(16, rcV hN V 1), (21, rcK h v 2)] ⟨rcV_ok _ _ _, rcK_ok _ _ _, trivial⟩ rfl rfl rfl rfl rfl rfl (by simp [conj, less_rfl, SO.Live, ren_val]) (fun t => ?_)
  refine run_drawE rfl ?_
  refine goY hB [(41, 9)] 3000 rfl (by simp [conj, Fits_i64, isBo4, isPt25, isMp43, isMp44, isIf20]) ?_
  refine goP hB rfl rfl (by simp [conj, Fits_i64, isBo4, isPt25, isMp43, isMp44, isIf20] <;> first | omega | exact fun a b => ⟨a, b⟩ | skip) ?_
  refine run_ff (by simp; omega) ?_
  refine goY hB [(43, 18)] 3000 rfl (by simp [conj, Fits_i64, isBo4, isPt25, isMp43, isMp44, isIf20]) ?_
  refine goP hB rfl rfl (by simp [conj, Fits_i64, isBo4, isPt25, isMp43, isMp44, isIf20] <;> first | omega | exact fun a b => ⟨a, b⟩ | skip) ?_
  refine run_ff (by first | rw [nkn, hc]; rfl | rw [nkn0, hc]; rfl) ?_
  refine goY hB [(41, 28)] 3000 rfl (by simp [conj, Fits_i64, isBo4, isPt25, isMp43, isMp44, isIf20]) ?_
  refine run_tt (by simpa using h0) ?_
  refine goY hB [(44, 10)] 3000 rfl (by simp [conj, Fits_i64, isBo4, isPt25, isMp43, isMp44, isIf20]) ?_
  refine run_tt (by simp; omega) ?_
  refine goY hB [(44, 16)] 3000 rfl (by simp [conj, Fits_i64, isBo4, isPt25, isMp43, isMp44, isIf20]) ?_
  refine run_tt (by simpa using hk) ?_
  refine goY hB [] 3000 rfl (by simp [conj, Fits_i64, isBo4, isPt25, isMp43, isMp44, isIf20]) ?_
  refine run_callC (holds_hc h v T H host) named hB [11, 21] rfl rfl rfl rfl (by simp [conj]) (by simp [conj, less_rfl]) ?_
  rintro ⟨⟩ _
  refine ⟨show 2 ≤ 2 by omega, _, _, _, rfl, rfl, rfl, ?_⟩
  refine run_tt hh ?_
  refine goY hB [] 3000 rfl (by simp [conj, Fits_i64, isBo4, isPt25, isMp43, isMp44, isIf20]) ?_
  refine run_retF hF0 hpin (⟨hN, V⟩ : NSt) hNK [0, 1, 2, 16, 21, 99] rfl rfl (by simp [conj]) rfl ?_
  simp [conj, less_rfl, ren_val, gen1, ren_fnr, renR_fnr]
end Sx
end
