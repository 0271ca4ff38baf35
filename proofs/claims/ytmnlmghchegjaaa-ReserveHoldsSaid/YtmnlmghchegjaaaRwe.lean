/- Package reserve: Register at any reservation. Conditions: as each theorem says. -/
import Derived.Test.YtmnlmghchegjaaaRwd
import Derived.Test.YtmnlmghchegjaaaRso
set_option linter.unusedSimpArgs false
set_option linter.unusedVariables false
namespace Sx
open Go Go.Proofs
set_option maxRecDepth 100000
set_option pp.deepTerms true
set_option pp.maxSteps 10000000
/-- A reservation: the keys, the type, the holder, the generation, whether it persists, the notices. -/
structure RSt where
  h : Int → Bool
  v : Int → Int
  T : Int
  H : Int
  G : Int
  p : Bool
  N : Int → List Int
abbrev hpS (s : RSt) (z : NSt) : Hp := [(0, rC0 1 2 s.T s.H s.G s.p), (1, nmap z.h z.V), (2, kmap s.h s.v)]
abbrev hpT (s : RSt) (z : NSt) : Hp := [(0, rC0 3 4 s.T s.H s.G s.p), (3, nmap z.h z.V), (4, kmap s.h s.v)]
/-- The status of a code. -/
abbrev stC (c : Int) : SV := .agg [.int .u8 0, .int .u8 c, .ff, .sb (!decide (c = 0))]
def gen1 (G : Int) : Int := IntKind.u32.wrap (G + 1)
/-- A removal. -/
def remS (s : RSt) (l : List Int) (a b : Int) : RSt :=
  { s with h := hDel s.h a, T := if rmE s.h s.T s.H l a = true then 0 else s.T, H := if rmE s.h s.T s.H l a = true then 0 else s.H, N := if rmE s.h s.T s.H l a = true then relN s.N s.T b l else s.N }
/-- Register: the code and the reservation after it. -/
def regO (s : RSt) (l : List Int) (host a key cur : Int) (ig : Bool) : Int × RSt :=
  if host = 0 ∨ ¬ (0 ≤ a ∧ a ≤ 2) then (2, s)
  else if a = 0 then (if key = 0 then (2, s) else if s.h host = true then (if s.v host = key then (0, s) else (131, s)) else if 128 ≤ l.length then (21, s) else (0, { s with h := hAdd s.h host, v := vAdd s.v host key, G := gen1 s.G }))
  else if a = 1 then (if (s.h host && (ig || decide (s.v host = cur))) = true then (0, { remS s l host host with G := gen1 s.G }) else (131, s))
  else (if key = 0 then (2, s) else if (s.h host && (ig || decide (s.v host = cur))) = true then (0, { s with h := hAdd s.h host, v := vAdd s.v host key, G := gen1 s.G }) else (131, s))
abbrev cfX : List Nat := [37, 38, 81, 87, 85, 52, 53, 56, 73, 75, 76]
def modeX : Mode := { st := true, unr := true, inl := fun f => !hasN f cfX, sum := sumOf [], keep := fun _ => none }
theorem goZ {B : Base} (hB : B.ok) {ro : Hp} {f : FuncId} {R : Ending → World → Prop} (S : List (Nat × Nat)) (m : Nat) {cs : List Prop} {c c' : Cfg} (h : execY Try.prog modeX ro S m [] c = (cs, c')) (hc : conj cs)
    (hr : Run Try.prog ro B f R c') : Run Try.prog ro B f R c := run_goY mixed named hB (sumOk_nil _) S m h hc hr
theorem nkn {b ig : Bool} {x y : Int} : (!(b && (ig || decide ((bif b then x else 0) = y)))) = !(b && (ig || decide (x = y))) := by cases b <;> simp
abbrev RegC (K : Kn) (s : RSt) (z0 : NSt) (host a key cur : Int) (ig : Bool) (o : Int × RSt) : Prop :=
  HCX Try.prog K M0 17 [.ptr 0 0, u64 host, i64 a, u64 key, u64 cur, .sb ig] (hpS s z0) [] 3 (fun (z : NSt) K' => NOK K' z.h z.V o.2.N) (fun z => ⟨stC o.1, hpT o.2 z, 5⟩)
theorem goQ {B : Base} (hB : B.ok) {ro : Hp} {f : FuncId} {R : Ending → World → Prop} {cs0 cs : List Prop} {c c0 c' : Cfg} (h0 : stepD Try.prog modeX ro c = some (cs0, c0)) (h : execG Try.prog modeX ro 400 cs0 c0 = (cs, c')) (hc : conj cs)
    (hr : Run Try.prog ro B f R c') : Run Try.prog ro B f R c := run_go mixed named hB (sumOk_nil _) 400 h0 h hc hr
set_option maxHeartbeats 4000000 in
theorem reg_zero (K : Kn) (s : RSt) (z0 : NSt) (hNK : NOK K z0.h z0.V s.N) (host a key cur : Int) (ig : Bool) (ha : host = 0) : RegC K s z0 host a key cur ig (2, s) := by
  obtain ⟨hN, V⟩ := z0
  obtain ⟨h, v, T, H, G, p, N⟩ := s
  refine hcx_of_run Try.func17 rfl (fun B hB hK hpin => ?_)
  have hF0 : Fz B K M0 B K := .refl hB hK
  refine goZ hB [(40, 13)] 3000 rfl (by simp [conj, Fits_i64, isBo4, isPt25, isMp43, isMp44, isIf20]) ?_
  refine run_ff (by simpa using ha) ?_
  refine goZ hB [] 3000 rfl (by simp [conj, Fits_i64, isBo4, isPt25, isMp43, isMp44, isIf20]) ?_
  refine run_retF hF0 hpin (⟨hN, V⟩ : NSt) hNK [0, 1, 2, 1, 2] rfl rfl (by simp [conj]) rfl ?_
  simp [conj, less_rfl, ren_val, gen1]
set_option maxHeartbeats 4000000 in
theorem reg_act (K : Kn) (s : RSt) (z0 : NSt) (hNK : NOK K z0.h z0.V s.N) (host a key cur : Int) (ig : Bool) (ha : host ≠ 0) (hq : ¬ (0 ≤ a ∧ a ≤ 2)) : RegC K s z0 host a key cur ig (2, s) := by
  obtain ⟨hN, V⟩ := z0
  obtain ⟨h, v, T, H, G, p, N⟩ := s
  refine hcx_of_run Try.func17 rfl (fun B hB hK hpin => ?_)
  have hF0 : Fz B K M0 B K := .refl hB hK
  refine goZ hB [(40, 13)] 3000 rfl (by simp [conj, Fits_i64, isBo4, isPt25, isMp43, isMp44, isIf20]) ?_
  refine run_tt (by simpa using ha) ?_
  refine goZ hB [] 3000 rfl (by simp [conj, Fits_i64, isBo4, isPt25, isMp43, isMp44, isIf20]) ?_
  refine run_draw0 mixed (fun t => ?_)
  refine run_drawC (M := modeX) 1 14 rfl named hB (sumOk_nil _) [(15, rcV hN V 1), (20, rcK h v 2)] ⟨rcV_ok _ _ _, rcK_ok _ _ _, trivial⟩ rfl rfl rfl rfl rfl rfl (by simp [conj, less_rfl, SO.Live, ren_val]) (fun t => ?_)
  refine run_drawE rfl ?_
  refine goZ hB [(47, 9)] 3000 rfl (by simp [conj, Fits_i64, isBo4, isPt25, isMp43, isMp44, isIf20]) ?_
  refine goQ hB rfl rfl (by simp [conj, Fits_i64, isBo4, isPt25, isMp43, isMp44, isIf20] <;> first | omega | exact fun a b => ⟨a, b⟩ | skip) ?_
  refine run_tt (by simp; omega) ?_
  refine goZ hB [] 3000 rfl (by simp [conj, Fits_i64, isBo4, isPt25, isMp43, isMp44, isIf20]) ?_
  refine run_retF hF0 hpin (⟨hN, V⟩ : NSt) hNK [0, 1, 2, 1, 2] rfl rfl (by simp [conj]) rfl ?_
  simp [conj, less_rfl, ren_val, gen1]
set_option maxHeartbeats 4000000 in
theorem reg_key0 (K : Kn) (s : RSt) (z0 : NSt) (hNK : NOK K z0.h z0.V s.N) (host a key cur : Int) (ig : Bool) (ha : host ≠ 0) (hq : a = 0) (hk : key = 0) : RegC K s z0 host a key cur ig (2, s) := by
  obtain ⟨hN, V⟩ := z0
  obtain ⟨h, v, T, H, G, p, N⟩ := s
  refine hcx_of_run Try.func17 rfl (fun B hB hK hpin => ?_)
  have hF0 : Fz B K M0 B K := .refl hB hK
  subst hq
  refine goZ hB [(40, 13)] 3000 rfl (by simp [conj, Fits_i64, isBo4, isPt25, isMp43, isMp44, isIf20]) ?_
  refine run_tt (by simpa using ha) ?_
  refine goZ hB [] 3000 rfl (by simp [conj, Fits_i64, isBo4, isPt25, isMp43, isMp44, isIf20]) ?_
  refine run_draw0 mixed (fun t => ?_)
  refine run_drawC (M := modeX) 1 14 rfl named hB (sumOk_nil _) [(15, rcV hN V 1), (20, rcK h v 2)] ⟨rcV_ok _ _ _, rcK_ok _ _ _, trivial⟩ rfl rfl rfl rfl rfl rfl (by simp [conj, less_rfl, SO.Live, ren_val]) (fun t => ?_)
  refine run_drawE rfl ?_
  refine goZ hB [(48, 8)] 3000 rfl (by simp [conj, Fits_i64, isBo4, isPt25, isMp43, isMp44, isIf20]) ?_
  refine run_ff (by simpa using hk) ?_
  refine goZ hB [] 3000 rfl (by simp [conj, Fits_i64, isBo4, isPt25, isMp43, isMp44, isIf20]) ?_
  refine run_retF hF0 hpin (⟨hN, V⟩ : NSt) hNK [0, 1, 2, 1, 2] rfl rfl (by simp [conj]) rfl ?_
  simp [conj, less_rfl, ren_val, gen1]
set_option maxHeartbeats 4000000 in
theorem reg_same (K : Kn) (s : RSt) (z0 : NSt) (hNK : NOK K z0.h z0.V s.N) (host a key cur : Int) (ig : Bool) (ha : host ≠ 0) (hq : a = 0) (hk : key ≠ 0) (hh : s.h host = true) (hv : s.v host = key) : RegC K s z0 host a key cur ig (0, s) := by
  obtain ⟨hN, V⟩ := z0
  obtain ⟨h, v, T, H, G, p, N⟩ := s
  refine hcx_of_run Try.func17 rfl (fun B hB hK hpin => ?_)
  have hF0 : Fz B K M0 B K := .refl hB hK
  subst hq
  refine goZ hB [(40, 13)] 3000 rfl (by simp [conj, Fits_i64, isBo4, isPt25, isMp43, isMp44, isIf20]) ?_
  refine run_tt (by simpa using ha) ?_
  refine goZ hB [] 3000 rfl (by simp [conj, Fits_i64, isBo4, isPt25, isMp43, isMp44, isIf20]) ?_
  refine run_draw0 mixed (fun t => ?_)
  refine run_drawC (M := modeX) 1 14 rfl named hB (sumOk_nil _) [(15, rcV hN V 1), (20, rcK h v 2)] ⟨rcV_ok _ _ _, rcK_ok _ _ _, trivial⟩ rfl rfl rfl rfl rfl rfl (by simp [conj, less_rfl, SO.Live, ren_val]) (fun t => ?_)
  refine run_drawE rfl ?_
  refine goZ hB [(48, 8)] 3000 rfl (by simp [conj, Fits_i64, isBo4, isPt25, isMp43, isMp44, isIf20]) ?_
  refine run_tt (by simpa using hk) ?_
  refine goZ hB [(48, 5)] 3000 rfl (by simp [conj, Fits_i64, isBo4, isPt25, isMp43, isMp44, isIf20]) ?_
  refine run_tt (by simpa using hh) ?_
  refine goZ hB [(48, 24)] 3000 rfl (by simp [conj, Fits_i64, isBo4, isPt25, isMp43, isMp44, isIf20]) ?_
  refine run_tt (by have hh : h host = true := hh; have hv : v host = key := hv; simp [hh, hv]) ?_
  refine goZ hB [] 3000 rfl (by simp [conj, Fits_i64, isBo4, isPt25, isMp43, isMp44, isIf20]) ?_
  refine run_retF hF0 hpin (⟨hN, V⟩ : NSt) hNK [0, 1, 2, 15, 20] rfl rfl (by simp [conj]) rfl ?_
  simp [conj, less_rfl, ren_val, gen1]
set_option maxHeartbeats 4000000 in
theorem reg_conf (K : Kn) (s : RSt) (z0 : NSt) (hNK : NOK K z0.h z0.V s.N) (host a key cur : Int) (ig : Bool) (ha : host ≠ 0) (hq : a = 0) (hk : key ≠ 0) (hh : s.h host = true) (hv : s.v host ≠ key) : RegC K s z0 host a key cur ig (131, s) := by
  obtain ⟨hN, V⟩ := z0
  obtain ⟨h, v, T, H, G, p, N⟩ := s
  refine hcx_of_run Try.func17 rfl (fun B hB hK hpin => ?_)
  have hF0 : Fz B K M0 B K := .refl hB hK
  subst hq
  refine goZ hB [(40, 13)] 3000 rfl (by simp [conj, Fits_i64, isBo4, isPt25, isMp43, isMp44, isIf20]) ?_
  refine run_tt (by simpa using ha) ?_
  refine goZ hB [] 3000 rfl (by simp [conj, Fits_i64, isBo4, isPt25, isMp43, isMp44, isIf20]) ?_
  refine run_draw0 mixed (fun t => ?_)
  refine run_drawC (M := modeX) 1 14 rfl named hB (sumOk_nil _) [(15, rcV hN V 1), (20, rcK h v 2)] ⟨rcV_ok _ _ _, rcK_ok _ _ _, trivial⟩ rfl rfl rfl rfl rfl rfl (by simp [conj, less_rfl, SO.Live, ren_val]) (fun t => ?_)
  refine run_drawE rfl ?_
  refine goZ hB [(48, 8)] 3000 rfl (by simp [conj, Fits_i64, isBo4, isPt25, isMp43, isMp44, isIf20]) ?_
  refine run_tt (by simpa using hk) ?_
  refine goZ hB [(48, 5)] 3000 rfl (by simp [conj, Fits_i64, isBo4, isPt25, isMp43, isMp44, isIf20]) ?_
  refine run_tt (by simpa using hh) ?_
  refine goZ hB [(48, 24)] 3000 rfl (by simp [conj, Fits_i64, isBo4, isPt25, isMp43, isMp44, isIf20]) ?_
  refine run_ff (by have hh : h host = true := hh; have hv : v host ≠ key := hv; simp [hh, hv]) ?_
  refine goZ hB [] 3000 rfl (by simp [conj, Fits_i64, isBo4, isPt25, isMp43, isMp44, isIf20]) ?_
  refine run_retF hF0 hpin (⟨hN, V⟩ : NSt) hNK [0, 1, 2, 1, 2] rfl rfl (by simp [conj]) rfl ?_
  simp [conj, less_rfl, ren_val, gen1]
set_option maxHeartbeats 4000000 in
theorem reg_full (K : Kn) (s : RSt) (z0 : NSt) (hNK : NOK K z0.h z0.V s.N) (host a key cur : Int) (ig : Bool) (l : List Int) (hkl : KeysOf s.h l) (ha : host ≠ 0) (hq : a = 0) (hk : key ≠ 0) (hh : s.h host = false) (hl : 128 ≤ l.length) : RegC K s z0 host a key cur ig (21, s) := by
  obtain ⟨hN, V⟩ := z0
  obtain ⟨h, v, T, H, G, p, N⟩ := s
  refine hcx_of_run Try.func17 rfl (fun B hB hK hpin => ?_)
  have hF0 : Fz B K M0 B K := .refl hB hK
  subst hq
  refine goZ hB [(40, 13)] 3000 rfl (by simp [conj, Fits_i64, isBo4, isPt25, isMp43, isMp44, isIf20]) ?_
  refine run_tt (by simpa using ha) ?_
  refine goZ hB [] 3000 rfl (by simp [conj, Fits_i64, isBo4, isPt25, isMp43, isMp44, isIf20]) ?_
  refine run_draw0 mixed (fun t => ?_)
  refine run_drawC (M := modeX) 1 14 rfl named hB (sumOk_nil _) [(15, rcV hN V 1), (20, rcK h v 2)] ⟨rcV_ok _ _ _, rcK_ok _ _ _, trivial⟩ rfl rfl rfl rfl rfl rfl (by simp [conj, less_rfl, SO.Live, ren_val]) (fun t => ?_)
  refine run_drawE rfl ?_
  refine goZ hB [(48, 8)] 3000 rfl (by simp [conj, Fits_i64, isBo4, isPt25, isMp43, isMp44, isIf20]) ?_
  refine run_tt (by simpa using hk) ?_
  refine goZ hB [(48, 5)] 3000 rfl (by simp [conj, Fits_i64, isBo4, isPt25, isMp43, isMp44, isIf20]) ?_
  refine run_ff (by simpa using hh) ?_
  refine goZ hB [] 3000 rfl (by simp [conj, Fits_i64, isBo4, isPt25, isMp43, isMp44, isIf20]) ?_
  refine run_mlenN l l.length rfl (hkl.1.imp fun {x y} q => by omega) (fun x => (hkl.2 x).symm) rfl rfl (by simp [conj]) rfl rfl ?_
  refine goZ hB [(48, 31)] 3000 rfl (by simp [conj, Fits_i64, isBo4, isPt25, isMp43, isMp44, isIf20]) ?_
  refine run_ff (by simp; omega) ?_
  refine goZ hB [] 3000 rfl (by simp [conj, Fits_i64, isBo4, isPt25, isMp43, isMp44, isIf20]) ?_
  refine run_retF hF0 hpin (⟨hN, V⟩ : NSt) hNK [0, 1, 2, 1, 2] rfl rfl (by simp [conj]) rfl ?_
  simp [conj, less_rfl, ren_val, gen1]
set_option maxHeartbeats 4000000 in
theorem reg_new (K : Kn) (s : RSt) (z0 : NSt) (hNK : NOK K z0.h z0.V s.N) (host a key cur : Int) (ig : Bool) (l : List Int) (hkl : KeysOf s.h l) (ha : host ≠ 0) (hq : a = 0) (hk : key ≠ 0) (hh : s.h host = false) (hl : l.length < 128) : RegC K s z0 host a key cur ig (0, { s with h := hAdd s.h host, v := vAdd s.v host key, G := gen1 s.G }) := by
  obtain ⟨hN, V⟩ := z0
  obtain ⟨h, v, T, H, G, p, N⟩ := s
  refine hcx_of_run Try.func17 rfl (fun B hB hK hpin => ?_)
  have hF0 : Fz B K M0 B K := .refl hB hK
  subst hq
  refine goZ hB [(40, 13)] 3000 rfl (by simp [conj, Fits_i64, isBo4, isPt25, isMp43, isMp44, isIf20]) ?_
  refine run_tt (by simpa using ha) ?_
  refine goZ hB [] 3000 rfl (by simp [conj, Fits_i64, isBo4, isPt25, isMp43, isMp44, isIf20]) ?_
  refine run_draw0 mixed (fun t => ?_)
  refine run_drawC (M := modeX) 1 14 rfl named hB (sumOk_nil _) [(15, rcV hN V 1), (20, rcK h v 2)] ⟨rcV_ok _ _ _, rcK_ok _ _ _, trivial⟩ rfl rfl rfl rfl rfl rfl (by simp [conj, less_rfl, SO.Live, ren_val]) (fun t => ?_)
  refine run_drawE rfl ?_
  refine goZ hB [(48, 8)] 3000 rfl (by simp [conj, Fits_i64, isBo4, isPt25, isMp43, isMp44, isIf20]) ?_
  refine run_tt (by simpa using hk) ?_
  refine goZ hB [(48, 5)] 3000 rfl (by simp [conj, Fits_i64, isBo4, isPt25, isMp43, isMp44, isIf20]) ?_
  refine run_ff (by simpa using hh) ?_
  refine goZ hB [] 3000 rfl (by simp [conj, Fits_i64, isBo4, isPt25, isMp43, isMp44, isIf20]) ?_
  refine run_mlenN l l.length rfl (hkl.1.imp fun {x y} q => by omega) (fun x => (hkl.2 x).symm) rfl rfl (by simp [conj]) rfl rfl ?_
  refine goZ hB [(48, 31)] 3000 rfl (by simp [conj, Fits_i64, isBo4, isPt25, isMp43, isMp44, isIf20]) ?_
  refine run_tt (by simp; omega) ?_
  refine goZ hB [] 3000 rfl (by simp [conj, Fits_i64, isBo4, isPt25, isMp43, isMp44, isIf20]) ?_
  refine run_retF hF0 hpin (⟨hN, V⟩ : NSt) hNK [0, 1, 2, 15, 20] rfl rfl (by simp [conj]) rfl ?_
  simp [conj, less_rfl, ren_val, gen1]
set_option maxHeartbeats 4000000 in
theorem reg_rep0 (K : Kn) (s : RSt) (z0 : NSt) (hNK : NOK K z0.h z0.V s.N) (host a key cur : Int) (ig : Bool) (ha : host ≠ 0) (hq : a = 2) (hk : key = 0) : RegC K s z0 host a key cur ig (2, s) := by
  obtain ⟨hN, V⟩ := z0
  obtain ⟨h, v, T, H, G, p, N⟩ := s
  refine hcx_of_run Try.func17 rfl (fun B hB hK hpin => ?_)
  have hF0 : Fz B K M0 B K := .refl hB hK
  subst hq
  refine goZ hB [(40, 13)] 3000 rfl (by simp [conj, Fits_i64, isBo4, isPt25, isMp43, isMp44, isIf20]) ?_
  refine run_tt (by simpa using ha) ?_
  refine goZ hB [] 3000 rfl (by simp [conj, Fits_i64, isBo4, isPt25, isMp43, isMp44, isIf20]) ?_
  refine run_draw0 mixed (fun t => ?_)
  refine run_drawC (M := modeX) 1 14 rfl named hB (sumOk_nil _) [(15, rcV hN V 1), (20, rcK h v 2)] ⟨rcV_ok _ _ _, rcK_ok _ _ _, trivial⟩ rfl rfl rfl rfl rfl rfl (by simp [conj, less_rfl, SO.Live, ren_val]) (fun t => ?_)
  refine run_drawE rfl ?_
  refine goZ hB [(50, 6)] 3000 rfl (by simp [conj, Fits_i64, isBo4, isPt25, isMp43, isMp44, isIf20]) ?_
  refine run_ff (by simpa using hk) ?_
  refine goZ hB [] 3000 rfl (by simp [conj, Fits_i64, isBo4, isPt25, isMp43, isMp44, isIf20]) ?_
  refine run_retF hF0 hpin (⟨hN, V⟩ : NSt) hNK [0, 1, 2, 1, 2] rfl rfl (by simp [conj]) rfl ?_
  simp [conj, less_rfl, ren_val, gen1]
set_option maxHeartbeats 4000000 in
theorem reg_repno (K : Kn) (s : RSt) (z0 : NSt) (hNK : NOK K z0.h z0.V s.N) (host a key cur : Int) (ig : Bool) (ha : host ≠ 0) (hq : a = 2) (hk : key ≠ 0) (hc : (s.h host && (ig || decide (s.v host = cur))) = false) : RegC K s z0 host a key cur ig (131, s) := by
  obtain ⟨hN, V⟩ := z0
  obtain ⟨h, v, T, H, G, p, N⟩ := s
  refine hcx_of_run Try.func17 rfl (fun B hB hK hpin => ?_)
  have hF0 : Fz B K M0 B K := .refl hB hK
  subst hq
  have hc : (h host && (ig || decide (v host = cur))) = false := hc
  refine goZ hB [(40, 13)] 3000 rfl (by simp [conj, Fits_i64, isBo4, isPt25, isMp43, isMp44, isIf20]) ?_
  refine run_tt (by simpa using ha) ?_
  refine goZ hB [] 3000 rfl (by simp [conj, Fits_i64, isBo4, isPt25, isMp43, isMp44, isIf20]) ?_
  refine run_draw0 mixed (fun t => ?_)
  refine run_drawC (M := modeX) 1 14 rfl named hB (sumOk_nil _) [(15, rcV hN V 1), (20, rcK h v 2)] ⟨rcV_ok _ _ _, rcK_ok _ _ _, trivial⟩ rfl rfl rfl rfl rfl rfl (by simp [conj, less_rfl, SO.Live, ren_val]) (fun t => ?_)
  refine run_drawE rfl ?_
  refine goZ hB [(50, 6)] 3000 rfl (by simp [conj, Fits_i64, isBo4, isPt25, isMp43, isMp44, isIf20]) ?_
  refine run_tt (by simpa using hk) ?_
  refine goZ hB [(50, 14)] 3000 rfl (by simp [conj, Fits_i64, isBo4, isPt25, isMp43, isMp44, isIf20]) ?_
  refine goQ hB rfl rfl (by simp [conj, Fits_i64, isBo4, isPt25, isMp43, isMp44, isIf20] <;> first | omega | exact fun a b => ⟨a, b⟩ | skip) ?_
  refine run_tt (by rw [nkn, hc]; rfl) ?_
  refine goZ hB [] 3000 rfl (by simp [conj, Fits_i64, isBo4, isPt25, isMp43, isMp44, isIf20]) ?_
  refine run_retF hF0 hpin (⟨hN, V⟩ : NSt) hNK [0, 1, 2, 1, 2] rfl rfl (by simp [conj]) rfl ?_
  simp [conj, less_rfl, ren_val, gen1]
set_option maxHeartbeats 4000000 in
theorem reg_rep (K : Kn) (s : RSt) (z0 : NSt) (hNK : NOK K z0.h z0.V s.N) (host a key cur : Int) (ig : Bool) (ha : host ≠ 0) (hq : a = 2) (hk : key ≠ 0) (hc : (s.h host && (ig || decide (s.v host = cur))) = true) : RegC K s z0 host a key cur ig (0, { s with h := hAdd s.h host, v := vAdd s.v host key, G := gen1 s.G }) := by
  obtain ⟨hN, V⟩ := z0
  obtain ⟨h, v, T, H, G, p, N⟩ := s
  refine hcx_of_run Try.func17 rfl (fun B hB hK hpin => ?_)
  have hF0 : Fz B K M0 B K := .refl hB hK
  subst hq
  have hc : (h host && (ig || decide (v host = cur))) = true := hc
  refine goZ hB [(40, 13)] 3000 rfl (by simp [conj, Fits_i64, isBo4, isPt25, isMp43, isMp44, isIf20]) ?_
  refine run_tt (by simpa using ha) ?_
  refine goZ hB [] 3000 rfl (by simp [conj, Fits_i64, isBo4, isPt25, isMp43, isMp44, isIf20]) ?_
  refine run_draw0 mixed (fun t => ?_)
  refine run_drawC (M := modeX) 1 14 rfl named hB (sumOk_nil _) [(15, rcV hN V 1), (20, rcK h v 2)] ⟨rcV_ok _ _ _, rcK_ok _ _ _, trivial⟩ rfl rfl rfl rfl rfl rfl (by simp [conj, less_rfl, SO.Live, ren_val]) (fun t => ?_)
  refine run_drawE rfl ?_
  refine goZ hB [(50, 6)] 3000 rfl (by simp [conj, Fits_i64, isBo4, isPt25, isMp43, isMp44, isIf20]) ?_
  refine run_tt (by simpa using hk) ?_
  refine goZ hB [(50, 14)] 3000 rfl (by simp [conj, Fits_i64, isBo4, isPt25, isMp43, isMp44, isIf20]) ?_
  refine goQ hB rfl rfl (by simp [conj, Fits_i64, isBo4, isPt25, isMp43, isMp44, isIf20] <;> first | omega | exact fun a b => ⟨a, b⟩ | skip) ?_
  refine run_ff (by rw [nkn, hc]; rfl) ?_
  refine goZ hB [] 3000 rfl (by simp [conj, Fits_i64, isBo4, isPt25, isMp43, isMp44, isIf20]) ?_
  refine run_retF hF0 hpin (⟨hN, V⟩ : NSt) hNK [0, 1, 2, 15, 20] rfl rfl (by simp [conj]) rfl ?_
  simp [conj, less_rfl, ren_val, gen1]
set_option maxHeartbeats 4000000 in
theorem reg_unno (K : Kn) (s : RSt) (z0 : NSt) (hNK : NOK K z0.h z0.V s.N) (host a key cur : Int) (ig : Bool) (ha : host ≠ 0) (hq : a = 1) (hc : (s.h host && (ig || decide (s.v host = cur))) = false) : RegC K s z0 host a key cur ig (131, s) := by
  obtain ⟨hN, V⟩ := z0
  obtain ⟨h, v, T, H, G, p, N⟩ := s
  refine hcx_of_run Try.func17 rfl (fun B hB hK hpin => ?_)
  have hF0 : Fz B K M0 B K := .refl hB hK
  subst hq
  have hc : (h host && (ig || decide (v host = cur))) = false := hc
  refine goZ hB [(40, 13)] 3000 rfl (by simp [conj, Fits_i64, isBo4, isPt25, isMp43, isMp44, isIf20]) ?_
  refine run_tt (by simpa using ha) ?_
  refine goZ hB [] 3000 rfl (by simp [conj, Fits_i64, isBo4, isPt25, isMp43, isMp44, isIf20]) ?_
  refine run_draw0 mixed (fun t => ?_)
  refine run_drawC (M := modeX) 1 14 rfl named hB (sumOk_nil _) [(15, rcV hN V 1), (20, rcK h v 2)] ⟨rcV_ok _ _ _, rcK_ok _ _ _, trivial⟩ rfl rfl rfl rfl rfl rfl (by simp [conj, less_rfl, SO.Live, ren_val]) (fun t => ?_)
  refine run_drawE rfl ?_
  refine goZ hB [(49, 10)] 3000 rfl (by simp [conj, Fits_i64, isBo4, isPt25, isMp43, isMp44, isIf20]) ?_
  refine goQ hB rfl rfl (by simp [conj, Fits_i64, isBo4, isPt25, isMp43, isMp44, isIf20] <;> first | omega | exact fun a b => ⟨a, b⟩ | skip) ?_
  refine run_tt (by rw [nkn, hc]; rfl) ?_
  refine goZ hB [] 3000 rfl (by simp [conj, Fits_i64, isBo4, isPt25, isMp43, isMp44, isIf20]) ?_
  refine run_retF hF0 hpin (⟨hN, V⟩ : NSt) hNK [0, 1, 2, 1, 2] rfl rfl (by simp [conj]) rfl ?_
  simp [conj, less_rfl, ren_val, gen1]
set_option maxHeartbeats 4000000 in
theorem reg_un (K : Kn) (s : RSt) (z0 : NSt) (hNK : NOK K z0.h z0.V s.N) (host a key cur : Int) (ig : Bool) (l : List Int) (hkl : KeysOf s.h l) (hl : l.length < 129) (hN16 : ∀ a, (s.N a).length ≤ 16) (ha : host ≠ 0) (hq : a = 1) (hc : (s.h host && (ig || decide (s.v host = cur))) = true) : RegC K s z0 host a key cur ig (0, { remS s l host host with G := gen1 s.G }) := by
  obtain ⟨hN, V⟩ := z0
  obtain ⟨h, v, T, H, G, p, N⟩ := s
  refine hcx_of_run Try.func17 rfl (fun B hB hK hpin => ?_)
  have hF0 : Fz B K M0 B K := .refl hB hK
  subst hq
  have hc : (h host && (ig || decide (v host = cur))) = true := hc
  refine goZ hB [(40, 13)] 3000 rfl (by simp [conj, Fits_i64, isBo4, isPt25, isMp43, isMp44, isIf20]) ?_
  refine run_tt (by simpa using ha) ?_
  refine goZ hB [] 3000 rfl (by simp [conj, Fits_i64, isBo4, isPt25, isMp43, isMp44, isIf20]) ?_
  refine run_draw0 mixed (fun t => ?_)
  refine run_drawC (M := modeX) 1 14 rfl named hB (sumOk_nil _) [(15, rcV hN V 1), (20, rcK h v 2)] ⟨rcV_ok _ _ _, rcK_ok _ _ _, trivial⟩ rfl rfl rfl rfl rfl rfl (by simp [conj, less_rfl, SO.Live, ren_val]) (fun t => ?_)
  refine run_drawE rfl ?_
  refine goZ hB [(49, 10)] 3000 rfl (by simp [conj, Fits_i64, isBo4, isPt25, isMp43, isMp44, isIf20]) ?_
  refine goQ hB rfl rfl (by simp [conj, Fits_i64, isBo4, isPt25, isMp43, isMp44, isIf20] <;> first | omega | exact fun a b => ⟨a, b⟩ | skip) ?_
  refine run_ff (by rw [nkn, hc]; rfl) ?_
  refine goZ hB [] 3000 rfl (by simp [conj, Fits_i64, isBo4, isPt25, isMp43, isMp44, isIf20]) ?_
  refine run_callX (remove_hcx K hN V N hNK hN16 h v l hkl hl T H G p host host) named hB hK (fun _ h => h.elim) (.inr fun _ h => h) [10, 15, 20] rfl rfl rfl rfl (by simp [conj]) (by simp [conj, less_rfl, ren_val]) ?_
  rintro ⟨h2, V2⟩ B2 K2 hN2 hF2 hp2
  refine ⟨show 3 ≤ 3 by omega, _, _, _, rfl, rfl, rfl, ?_⟩
  have hB2 := hF2.ok
  refine goZ hB2 [] 3000 rfl (by simp [conj, Fits_i64, isBo4, isPt25, isMp43, isMp44, isIf20]) ?_
  refine run_retF hF2 (hpin.fz hF2 hp2) (⟨h2, V2⟩ : NSt) hN2 [0, 1, 2, 15, 20] rfl rfl (by simp [conj]) rfl ?_
  simp [conj, less_rfl, ren_val, gen1, remS]
theorem register_hcx (K : Kn) (s : RSt) (z0 : NSt) (hNK : NOK K z0.h z0.V s.N) (l : List Int) (hkl : KeysOf s.h l) (hl : l.length < 129) (hN16 : ∀ a, (s.N a).length ≤ 16) (host a key cur : Int) (ig : Bool) : RegC K s z0 host a key cur ig (regO s l host a key cur ig) := by
  unfold regO
  by_cases h0 : host = 0
  · rw [if_pos (.inl h0)]; exact reg_zero K s z0 hNK host a key cur ig h0
  by_cases h1 : 0 ≤ a ∧ a ≤ 2
  · rw [if_neg (by simp [h0, h1])]
    by_cases a0 : a = 0
    · rw [if_pos a0]
      by_cases k0 : key = 0
      · rw [if_pos k0]; exact reg_key0 K s z0 hNK host a key cur ig h0 a0 k0
      rw [if_neg k0]
      by_cases hh : s.h host = true
      · rw [if_pos hh]
        by_cases hv : s.v host = key
        · rw [if_pos hv]; exact reg_same K s z0 hNK host a key cur ig h0 a0 k0 hh hv
        · rw [if_neg hv]; exact reg_conf K s z0 hNK host a key cur ig h0 a0 k0 hh hv
      rw [if_neg hh]
      have hh := Bool.eq_false_iff.2 hh
      by_cases hf : 128 ≤ l.length
      · rw [if_pos hf]; exact reg_full K s z0 hNK host a key cur ig l hkl h0 a0 k0 hh hf
      · rw [if_neg hf]; exact reg_new K s z0 hNK host a key cur ig l hkl h0 a0 k0 hh (by omega)
    rw [if_neg a0]
    by_cases a1 : a = 1
    · rw [if_pos a1]
      by_cases hc : (s.h host && (ig || decide (s.v host = cur))) = true
      · rw [if_pos hc]; exact reg_un K s z0 hNK host a key cur ig l hkl hl hN16 h0 a1 hc
      · rw [if_neg hc]; exact reg_unno K s z0 hNK host a key cur ig h0 a1 (Bool.eq_false_iff.2 hc)
    rw [if_neg a1]
    have a2 : a = 2 := by omega
    by_cases k0 : key = 0
    · rw [if_pos k0]; exact reg_rep0 K s z0 hNK host a key cur ig h0 a2 k0
    rw [if_neg k0]
    by_cases hc : (s.h host && (ig || decide (s.v host = cur))) = true
    · rw [if_pos hc]; exact reg_rep K s z0 hNK host a key cur ig h0 a2 k0 hc
    · rw [if_neg hc]; exact reg_repno K s z0 hNK host a key cur ig h0 a2 k0 (Bool.eq_false_iff.2 hc)
  · rw [if_pos (.inr h1)]; exact reg_act K s z0 hNK host a key cur ig h0 h1
end Sx
