/- What ReserveNotices computes: true. Conditions: as each theorem says. -/
import Derived.Test.YtmnlmghchegjaaaOwnX12
set_option linter.unusedSimpArgs false
set_option linter.unusedVariables false
namespace Sx
open Go Go.Proofs
set_option maxRecDepth 100000
set_option pp.deepTerms true
set_option pp.maxSteps 10000000
abbrev s00 : RSt := ⟨fun _ => false, fun _ => 0, 0, 0, 0, false, fun _ => []⟩
abbrev z00 : NSt := ⟨fun _ => false, fun _ => .slice none 0 0⟩
theorem rx_len0 {M : List (Int × Int)} {a k : Int} {r : List Int} (h : nOf M a = k :: r) : (nOf (takeM M a) a).length + 1 = (nOf M a).length := by
  rw [take_some_N h, h]; simp
theorem NZ.take {M : List (Int × Int)} (q : NZ (nOf M)) (a : Int) : NZ (nOf (takeM M a)) := by
  intro b y hy
  rw [nOf_take] at hy
  split at hy
  · exact q a y (List.mem_of_mem_tail hy)
  · exact q b y hy
set_option maxHeartbeats 16000000 in
theorem notices_hcx (K : Kn) (host : Int) (off m : Nat) (L : Nat → A8) (hL : ∀ i, i < m → (L i).ok) :
    HCX Try.prog K M0 3 [.sq 0 off 0 8 m .no, u64 host] [] [(0, .row off m m 8 (ak8 L) anyTy)] 1 (fun (_ : Unit) _ => True) (fun _ => ⟨.tt, [], 1⟩) := by
  refine hcx_of_run Try.func3 rfl (fun B hB hK hpin => ?_)
  have hF0 : Fz B K M0 B K := .refl hB hK
  refine goJT hB [(3, 18)] 400 rfl (by first | exact conj_nil | simp [conj]) ?_
  by_cases hm : 80 < m
  · refine run_tt (by simp; omega) ?_
    refine goJ hB rfl rfl (by first | exact conj_nil | simp [conj]) ?_
    exact run_retF hF0 hpin () trivial [0] rfl rfl (by first | exact conj_nil | simp [conj]) rfl (by simp [conj, less_rfl, ren_ak8])
  refine run_ff (by simp; omega) ?_
  refine goJ hB rfl rfl (by first | exact conj_nil | simp [conj]) ?_
  refine run_loop ?_
  refine run_to hpin [0, 3, 1, 2, 4, 98, 99] (nx' := 7) (rest' := []) (sl' := [(7, i64 ((0 : Nat) : Int)), (6, .ptr 4 0), (5, .ptr 1 0), (4, .ff), (0, .sq 0 off 0 8 m .no), (1, u64 host)]) (hp' := [(1, rC0 2 3 0 0 0 false), (2, nmap (fun _ => false) (fun _ => .slice none 0 0)), (3, kmap (fun _ => false) (fun _ => 0)), (4, .cells [.sq 5 0 0 2 0 .own, i64 0, u64 0, .int .u32 0, .ff, .sq 6 0 0 2 0 .own] 31), (5, .row 0 0 0 2 (prow [] (fun _ => 0)) 116), (6, .row 0 0 0 2 (mrow []) 116)]) rfl rfl ?_ ?_
  · simp [conj, less_rfl, ren_val, ren_ak8]
  refine run_freezeB (L := 6) (off := 0) (sz := 2) (m := 0) (ap := .own) hB hK 4 5 rfl rfl rfl rfl (Nat.le_refl _) (fun i j _ hb => closed_mrow _ _ _ hb) rfl (fun _ => rfl) (fun _ => rfl) ?_
  intro vN0 B1 K1 hvN hF1 hp1
  refine run_freezeB (L := 5) (off := 0) (sz := 2) (m := 0) (ap := .own) hF1.ok hF1.le 4 0 rfl rfl rfl rfl (Nat.le_refl _) (fun i j _ hb => closed_prow _ _ _ _ hb) rfl (fun _ => rfl) (fun _ => rfl) ?_
  intro vL0 B2 K2 hvL hF2b hp2
  have hF2 := (hF0.trans0 hF1 hK fun _ h => h.elim).trans0 hF2b hK fun _ h => h.elim
  have hpin2 := (hpin.fz hF1 hp1).fz hF2b hp2
  have hJ0 : JInv K2 (s00, [], z00, [], vL0, vN0) := ⟨sinv0, ⟨fun _ _ => rfl, fun _ => Froz.nil _ _ _⟩, ⟨hvL, hvN.fz hF2b, rfl⟩, fun _ _ h => nomatch h⟩
  refine run_to hpin2 [0, 1, 2, 3, 4] (nx' := 5) (rest' := []) (sl' := [(7, i64 ((0 : Nat) : Int)), (6, .ptr 4 0), (5, .ptr 1 0), (4, .ff), (0, .sq 0 off 0 8 m .no), (1, u64 host)]) (hp' := [(1, rC0 2 3 s00.T s00.H s00.G s00.p), (2, nmap z00.h z00.V), (3, kmap s00.h s00.v), (4, .cells [.val vL0, i64 s00.T, u64 s00.H, .int .u32 s00.G, .sb s00.p, .val vN0] 31)]) rfl rfl ?_ ?_
  · simp [conj, less_rfl, ren_val, ren_ak8]
  refine run_invX (ι := Nat × JZ) hF2 hpin2 (fun x K' => x.1 ≤ m ∧ JInv K' x.2 ∧ x.2.2.2.2.1.length ≤ x.1 * 40000) (fun x => m - x.1) (fun x => [(7, i64 x.1), (6, .ptr 4 0), (5, .ptr 1 0), (4, .ff), (0, .sq 0 off 0 8 m .no), (1, u64 host)]) (fun _ => [])
    (fun x => [(1, rC0 2 3 x.2.1.T x.2.1.H x.2.1.G x.2.1.p), (2, nmap x.2.2.2.1.h x.2.2.2.1.V), (3, kmap x.2.1.h x.2.1.v), (4, .cells [.val x.2.2.2.2.2.1, i64 x.2.1.T, u64 x.2.1.H, .int .u32 x.2.1.G, .sb x.2.1.p, .val x.2.2.2.2.2.2] 31)]) (0, (s00, [], z00, [], vL0, vN0)) ⟨Nat.zero_le _, hJ0, Nat.le_refl 0⟩ ?_
  rintro ⟨i, s, l, z, M, vL, vN⟩ B3 K3 hF3 hpin3 ⟨hi, hJ, hMl⟩ ih
  have hB3 := hF3.ok
  have hK3 := hF3.le
  dsimp only at hi hJ hMl ih ⊢
  refine goJT hB3 [(3, 25)] 400 rfl (by clear ih; first | exact conj_nil | simp [conj]) ?_
  by_cases him : i < m
  · refine run_tt (by simpa using him) ?_
    refine goJT hB3 [] 400 rfl (by clear ih; first | exact conj_nil | simp [conj]) ?_
    have hact := act_all K3 s l z M vL vN hJ (by omega) (L i) (hL i him)
    unfold ActC at hact
    dsimp only at hact
    have e0 : 0 + ((i : Nat) : Int).toNat = i := by omega
    refine run_draw0 mixed (fun u => ?_)
    refine run_drawX (M := modeJ) hK3 3 13 rfl named hB3 sW_ok 6 ⟨10, [.ptr 0 0, .agg [.val vL, i64 s.T, u64 s.H, .int .u32 s.G, .sb s.p, .val vN], .agg [i64 (L i).w, i64 (L i).a, i64 (L i).t, u64 (L i).ho, u64 (L i).ke, u64 (L i).cu, .sb (L i).fl, .sb (L i).kn]], hpS s z, [], 3, .und, [], 3, [1, 2, 3]⟩ (s, l, z, M, vL, vN) hact rfl (fun x => by show 3 ≤ 6; omega) [] trivial rfl rfl (fun x => rfl) rfl (fun x => rfl) rfl rfl rfl (fun x => ?_) (fun x => ?_) ?_
    · repeat' (first | exact trivial | exact Or.inr (Or.inr rfl) | exact Or.inl rfl | exact Or.inr (Or.inl rfl) | apply And.intro)
    · clear ih
      simp [conj, less_rfl, SO.Live, ren_val, him]
    rintro ⟨s2, l2, z2, M2, vL2, vN2⟩ B4 K4 ⟨hJ4, hM4⟩ hF4 hp4 u
    have hB4 := hF4.ok
    dsimp only at hM4
    have ih := ih (i + 1, s2, l2, z2, M2, vL2, vN2) B4 K4 (hF3.trans0 hF4 hK fun _ h => h.elim) (hpin3.fz hF4 hp4) ⟨him, hJ4, by dsimp only; omega⟩ (by dsimp only; omega)
    refine run_drawE rfl ?_
    refine goJT hB4 [] 400 rfl (by clear ih; simp [conj, Fits_i64]; omega) ?_
    refine run_back ?_
    refine run_to (hpin3.fz hF4 hp4) [0, 11, 24, 37, 4] rfl rfl ?_ ih
    clear ih
    simp [conj, less_rfl, ren_ak8, ren_val]
  clear ih
  refine run_ff (by simpa using him) ?_
  refine goJT hB3 [] 400 rfl (by first | exact conj_nil | simp [conj]) ?_
  refine run_callC (copyP_hc s z) named hB3 [1, 2, 3] rfl rfl rfl rfl (by first | exact conj_nil | simp [conj]) (by simp [conj, less_rfl, ren_val]) ?_
  rintro ⟨⟩ _
  refine ⟨show 3 ≤ 6 by omega, _, _, _, rfl, rfl, rfl, ?_⟩
  have hq := hJ.s.n host
  have hNM : NOK K3 z.h z.V (nOf M) := by have := hJ.p; rw [← hJ.r.n] at this; exact this
  have hz0 : NZ (nOf M) := by have := hJ.z; rw [← hJ.r.n] at this; exact this
  have hq16 : (nOf M host).length ≤ 16 := by rw [hJ.r.n]; exact hq
  refine goJ hB3 rfl rfl (by first | exact conj_nil | simp [conj]) ?_
  refine run_loop ?_
  refine goJT hB3 [] 400 rfl (by first | exact conj_nil | simp [conj]) ?_
  refine run_loop ?_
  refine run_to hpin3 [0, 1, 2, 3, 4, 5, 6, 7, 8] (nx' := 9) (rest' := []) (sl' := [(11, i64 ((0 : Nat) : Int)), (10, .ptr 8 0), (9, i64 0), (8, .ptr 5 0), (6, .ptr 4 0), (5, .ptr 1 0), (4, .ff), (0, .sq 0 off 0 8 m .no), (1, u64 host)]) (hp' := [(1, rC0 2 3 s.T s.H s.G s.p), (2, nmap z.h z.V), (3, kmap s.h s.v), (5, rC0 6 7 s.T s.H s.G s.p), (6, nmap z.h z.V), (7, kmap s.h s.v), (4, .cells [.val vL, i64 s.T, u64 s.H, .int .u32 s.G, .sb s.p, .val vN] 31), (8, .cells [.val vL, i64 s.T, u64 s.H, .int .u32 s.G, .sb s.p, .val vN] 31)]) rfl rfl ?_ ?_
  · simp [conj, less_rfl, ren_val, ren_ak8]
  refine run_invX (ι := Nat × NSt × List (Int × Int) × Value) hF3 hpin3 (fun x K' => (nOf x.2.2.1 host).length + x.1 = (nOf M host).length ∧ NOK K' x.2.1.h x.2.1.V (nOf x.2.2.1) ∧ NZ (nOf x.2.2.1) ∧ Froz K' x.2.2.2 x.2.2.1.length 2 (mrow x.2.2.1) ∧ x.2.2.1.length ≤ M.length ∧ NOK K' z.h z.V (nOf M) ∧ Froz K' vN M.length 2 (mrow M)) (fun x => (nOf x.2.2.1 host).length)
    (fun x => [(11, i64 x.1), (10, .ptr 8 0), (9, i64 0), (8, .ptr 5 0), (6, .ptr 4 0), (5, .ptr 1 0), (4, .ff), (0, .sq 0 off 0 8 m .no), (1, u64 host)]) (fun _ => []) (fun x => [(1, rC0 2 3 s.T s.H s.G s.p), (2, nmap z.h z.V), (3, kmap s.h s.v), (5, rC0 6 7 s.T s.H s.G s.p), (6, nmap x.2.1.h x.2.1.V), (7, kmap s.h s.v), (4, .cells [.val vL, i64 s.T, u64 s.H, .int .u32 s.G, .sb s.p, .val vN] 31), (8, .cells [.val vL, i64 s.T, u64 s.H, .int .u32 s.G, .sb s.p, .val x.2.2.2] 31)]) (0, z, M, vN) ⟨Nat.add_zero _, hNM, hz0, hJ.r.N, Nat.le_refl _, hNM, hJ.r.N⟩ ?_
  rintro ⟨n, zi, Mi, vi⟩ B4 K4 hF4 hpin4 ⟨hn, hNi, hzi, hfi, hli, hkN, hkF⟩ ih
  have hB4 := hF4.ok
  have hK4 := hF4.le
  dsimp only at hn hNi hzi hfi hli hkN hkF ih ⊢
  refine goJT hB4 [] 400 rfl (by clear ih; first | exact conj_nil | simp [conj]) ?_
  have hQ := noticeR_hcx K4 vL vi Mi (by omega) hfi s.T s.H s.G s.p host
  have htl := take_len Mi host
  cases hno : nOf Mi host with
  | cons k r =>
    have hk0 : k ≠ 0 := hzi host k (by rw [hno]; exact List.mem_cons_self)
    have hrl := rx_len0 hno
    rw [kd_some hno] at hQ
    refine run_callX hQ named hB4 hK4 (fun _ h => h.elim) (.inr fun _ h => h) [] rfl rfl rfl rfl (by clear ih; first | exact conj_nil | simp [conj]) (by clear ih; simp [conj, less_rfl]) ?_
    rintro w B5 K5 hw hF5 hp5
    have hB5 := hF5.ok
    have hK5 := hF5.le
    refine ⟨show 0 ≤ 0 by omega, _, _, _, rfl, rfl, rfl, ?_⟩
    refine goJT hB5 [] 400 rfl (by clear ih; first | exact conj_nil | simp [conj]) ?_
    have hrl2 : r.length < 1000 := by rw [hno] at hn; simp at hn; omega
    refine run_callX (noticeP_some K5 { s with N := nOf Mi } zi (hNi.fz hF5) host k r hrl2 hno) named hB5 hK5 (fun _ h => h.elim) (.inr fun _ h => h) [5, 6, 7] rfl rfl rfl rfl (by clear ih; first | exact conj_nil | simp [conj]) (by clear ih; simp [conj, less_rfl, ren_val]) ?_
    rintro z6 B6 K6 hN6 hF6 hp6
    have hB6 := hF6.ok
    have hpin6 := (hpin4.fz hF5 hp5).fz hF6 hp6
    refine ⟨show 3 ≤ 3 by omega, _, _, _, rfl, rfl, rfl, ?_⟩
    have hN6 : NOK K6 z6.h z6.V (nOf (takeM Mi host)) := by rw [take_some_N hno]; exact hN6
    have ih := ih (n + 1, z6, takeM Mi host, w) B6 K6 ((hF4.trans0 hF5 hK fun _ h => h.elim).trans0 hF6 hK fun _ h => h.elim) hpin6 ⟨by dsimp only; omega, hN6, hzi.take host, hw.fz hF6, by dsimp only; omega, (hkN.fz hF5).fz hF6, (hkF.fz hF5).fz hF6⟩ (by dsimp only; omega)
    refine goJT hB6 [(3, 60)] 400 rfl (by clear ih; first | exact conj_nil | simp [conj]) ?_
    refine run_ff (by simp) ?_
    refine goJT hB6 [(3, 64)] 400 rfl (by clear ih; first | exact conj_nil | simp [conj]) ?_
    refine run_tt (by simp [hk0]) ?_
    refine goJT hB6 [(3, 68)] 400 rfl (by clear ih; first | exact conj_nil | simp [conj, isBo4]) ?_
    refine run_ff (by simp [hk0]) ?_
    refine goJT hB6 [] 400 rfl (by clear ih; simp [conj, Fits_i64]; omega) ?_
    refine run_back ?_
    refine run_to hpin6 [0, 1, 2, 3, 4, 5, 6, 7, 8] rfl rfl ?_ ih
    clear ih
    simp [conj, less_rfl, ren_val, ren_ak8]
  | nil =>
  clear ih
  rw [kd_none hno] at hQ
  refine run_callX hQ named hB4 hK4 (fun _ h => h.elim) (.inr fun _ h => h) [] rfl rfl rfl rfl (by first | exact conj_nil | simp [conj]) (by simp [conj, less_rfl]) ?_
  rintro w B5 K5 hw hF5 hp5
  have hB5 := hF5.ok
  have hK5 := hF5.le
  refine ⟨show 0 ≤ 0 by omega, _, _, _, rfl, rfl, rfl, ?_⟩
  refine goJT hB5 [] 400 rfl (by first | exact conj_nil | simp [conj]) ?_
  refine run_callX (noticeP_none K5 { s with N := nOf Mi } zi (hNi.fz hF5) host hno) named hB5 hK5 (fun _ h => h.elim) (.inr fun _ h => h) [5, 6, 7] rfl rfl rfl rfl (by first | exact conj_nil | simp [conj]) (by simp [conj, less_rfl, ren_val]) ?_
  rintro ⟨⟩ B6 K6 _ hF6 hp6
  have hB6 := hF6.ok
  have hpin6 := (hpin4.fz hF5 hp5).fz hF6 hp6
  have hN6 := (hkN.fz hF5).fz hF6
  have hf6 := (hkF.fz hF5).fz hF6
  clear hkN hkF hno hNi hzi hfi hli hQ htl
  have hF6 := (hF4.trans0 hF5 hK fun _ h => h.elim).trans0 hF6 hK fun _ h => h.elim
  refine ⟨show 3 ≤ 3 by omega, _, _, _, rfl, rfl, rfl, ?_⟩
  refine goJT hB6 [(3, 73)] 400 rfl (by first | exact conj_nil | simp [conj, isBo4]) ?_
  refine run_ff (by simp; omega) ?_
  clear hn
  refine goJT hB6 [] 400 rfl (by first | exact conj_nil | (simp [conj, Fits_i64]; done)) ?_
  refine run_back ?_
  refine goJT hB6 [] 400 rfl (by first | exact conj_nil | simp [conj]) ?_
  refine run_loop ?_
  refine run_to hpin6 [0, 1, 2, 3, 4, 10] (nx' := 6) (rest' := []) (sl' := [(11, i64 ((0 : Nat) : Int)), (10, .ptr 5 0), (9, i64 1), (8, .ptr 1 0), (6, .ptr 4 0), (5, .ptr 1 0), (4, .ff), (0, .sq 0 off 0 8 m .no), (1, u64 host)]) (hp' := [(1, rC0 2 3 s.T s.H s.G s.p), (2, nmap z.h z.V), (3, kmap s.h s.v), (4, .cells [.val vL, i64 s.T, u64 s.H, .int .u32 s.G, .sb s.p, .val vN] 31), (5, .cells [.val vL, i64 s.T, u64 s.H, .int .u32 s.G, .sb s.p, .val vN] 31)]) rfl rfl ?_ ?_
  · simp [conj, less_rfl, ren_val, ren_ak8]
  refine run_invX (ι := Nat × NSt × List (Int × Int) × Value) hF6 hpin6 (fun x K' => (nOf x.2.2.1 host).length + x.1 = (nOf M host).length ∧ NOK K' x.2.1.h x.2.1.V (nOf x.2.2.1) ∧ NZ (nOf x.2.2.1) ∧ Froz K' x.2.2.2 x.2.2.1.length 2 (mrow x.2.2.1) ∧ x.2.2.1.length ≤ M.length ∧ NOK K' z.h z.V (nOf M) ∧ Froz K' vN M.length 2 (mrow M)) (fun x => (nOf x.2.2.1 host).length)
    (fun x => [(11, i64 x.1), (10, .ptr 5 0), (9, i64 1), (8, .ptr 1 0), (6, .ptr 4 0), (5, .ptr 1 0), (4, .ff), (0, .sq 0 off 0 8 m .no), (1, u64 host)]) (fun _ => []) (fun x => [(1, rC0 2 3 s.T s.H s.G s.p), (2, nmap x.2.1.h x.2.1.V), (3, kmap s.h s.v), (4, .cells [.val vL, i64 s.T, u64 s.H, .int .u32 s.G, .sb s.p, .val vN] 31), (5, .cells [.val vL, i64 s.T, u64 s.H, .int .u32 s.G, .sb s.p, .val x.2.2.2] 31)]) (0, z, M, vN) ⟨Nat.add_zero _, hN6, hz0, hf6, Nat.le_refl _, hN6, hf6⟩ ?_
  rintro ⟨n, zi, Mi, vi⟩ B7 K7 hF7 hpin7 ⟨hn, hNi, hzi, hfi, hli, hkN, hkF⟩ ih
  have hB7 := hF7.ok
  have hK7 := hF7.le
  dsimp only at hn hNi hzi hfi hli hkN hkF ih ⊢
  refine goJT hB7 [] 400 rfl (by clear ih; first | exact conj_nil | simp [conj]) ?_
  have hQ := noticeR_hcx K7 vL vi Mi (by omega) hfi s.T s.H s.G s.p host
  have htl := take_len Mi host
  cases hno : nOf Mi host with
  | cons k r =>
    have hk0 : k ≠ 0 := hzi host k (by rw [hno]; exact List.mem_cons_self)
    have hrl := rx_len0 hno
    rw [kd_some hno] at hQ
    refine run_callX hQ named hB7 hK7 (fun _ h => h.elim) (.inr fun _ h => h) [] rfl rfl rfl rfl (by clear ih; first | exact conj_nil | simp [conj]) (by clear ih; simp [conj, less_rfl]) ?_
    rintro w B8 K8 hw hF8 hp8
    have hB8 := hF8.ok
    have hK8 := hF8.le
    refine ⟨show 0 ≤ 0 by omega, _, _, _, rfl, rfl, rfl, ?_⟩
    refine goJT hB8 [] 400 rfl (by clear ih; first | exact conj_nil | simp [conj]) ?_
    have hrl2 : r.length < 1000 := by rw [hno] at hn; simp at hn; omega
    refine run_callX (noticeP_some K8 { s with N := nOf Mi } zi (hNi.fz hF8) host k r hrl2 hno) named hB8 hK8 (fun _ h => h.elim) (.inr fun _ h => h) [1, 2, 3] rfl rfl rfl rfl (by clear ih; first | exact conj_nil | simp [conj]) (by clear ih; simp [conj, less_rfl, ren_val]) ?_
    rintro z6 B9 K9 hN6 hF9 hp9
    have hB9 := hF9.ok
    have hpin9 := (hpin7.fz hF8 hp8).fz hF9 hp9
    refine ⟨show 3 ≤ 3 by omega, _, _, _, rfl, rfl, rfl, ?_⟩
    have hN6 : NOK K9 z6.h z6.V (nOf (takeM Mi host)) := by rw [take_some_N hno]; exact hN6
    have ih := ih (n + 1, z6, takeM Mi host, w) B9 K9 ((hF7.trans0 hF8 hK fun _ h => h.elim).trans0 hF9 hK fun _ h => h.elim) hpin9 ⟨by dsimp only; omega, hN6, hzi.take host, hw.fz hF9, by dsimp only; omega, (hkN.fz hF8).fz hF9, (hkF.fz hF8).fz hF9⟩ (by dsimp only; omega)
    refine goJT hB9 [(3, 60)] 400 rfl (by clear ih; first | exact conj_nil | simp [conj]) ?_
    refine run_ff (by simp) ?_
    refine goJT hB9 [(3, 64)] 400 rfl (by clear ih; first | exact conj_nil | simp [conj]) ?_
    refine run_tt (by simp [hk0]) ?_
    refine goJT hB9 [(3, 68)] 400 rfl (by clear ih; first | exact conj_nil | simp [conj, isBo4]) ?_
    refine run_ff (by simp [hk0]) ?_
    refine goJT hB9 [] 400 rfl (by clear ih; simp [conj, Fits_i64]; omega) ?_
    refine run_back ?_
    refine run_to hpin9 [0, 1, 2, 3, 4, 5] rfl rfl ?_ ih
    clear ih
    simp [conj, less_rfl, ren_val, ren_ak8]
  | nil =>
  clear ih
  rw [kd_none hno] at hQ
  refine run_callX hQ named hB7 hK7 (fun _ h => h.elim) (.inr fun _ h => h) [] rfl rfl rfl rfl (by first | exact conj_nil | simp [conj]) (by simp [conj, less_rfl]) ?_
  rintro w B8 K8 hw hF8 hp8
  have hB8 := hF8.ok
  have hK8 := hF8.le
  refine ⟨show 0 ≤ 0 by omega, _, _, _, rfl, rfl, rfl, ?_⟩
  refine goJT hB8 [] 400 rfl (by first | exact conj_nil | simp [conj]) ?_
  refine run_callX (noticeP_none K8 { s with N := nOf Mi } zi (hNi.fz hF8) host hno) named hB8 hK8 (fun _ h => h.elim) (.inr fun _ h => h) [1, 2, 3] rfl rfl rfl rfl (by first | exact conj_nil | simp [conj]) (by simp [conj, less_rfl, ren_val]) ?_
  rintro ⟨⟩ B9 K9 _ hF9 hp9
  have hB9 := hF9.ok
  have hpin9 := (hpin7.fz hF8 hp8).fz hF9 hp9
  have hN9 := (hkN.fz hF8).fz hF9
  have hf9 := (hkF.fz hF8).fz hF9
  clear hkN hkF hno hNi hzi hfi hli hQ htl
  have hF9 := (hF7.trans0 hF8 hK fun _ h => h.elim).trans0 hF9 hK fun _ h => h.elim
  refine ⟨show 3 ≤ 3 by omega, _, _, _, rfl, rfl, rfl, ?_⟩
  refine goJT hB9 [(3, 73)] 400 rfl (by first | exact conj_nil | simp [conj, isBo4]) ?_
  refine run_ff (by simp; omega) ?_
  clear hn
  refine goJT hB9 [] 400 rfl (by first | exact conj_nil | (simp [conj, Fits_i64]; done)) ?_
  refine run_back ?_
  refine goJT hB9 [] 400 rfl (by first | exact conj_nil | simp [conj]) ?_
  exact run_retF hF9 hpin9 () trivial [0] rfl rfl (by first | exact conj_nil | simp [conj]) rfl (by simp [conj, less_rfl, ren_ak8])

end Sx
