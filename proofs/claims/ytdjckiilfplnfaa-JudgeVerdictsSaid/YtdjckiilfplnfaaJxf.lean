/- Chapter 47's reference: Finals. Conditions: as each theorem says. -/
import Derived.Test.YtdjckiilfplnfaaJxe
import Derived.Test.YtdjckiilfplnfaaJs
import Derived.Test.YtdjckiilfplnfaaEngX5
set_option linter.unusedSimpArgs false
set_option linter.unusedVariables false
namespace Sx
open Go Go.Proofs
set_option maxRecDepth 100000
set_option pp.deepTerms true
set_option pp.maxSteps 10000000
theorem cntR5 : ∀ n, n ≤ 5 → cntR n n ≤ 1956
  | 0, _ | 1, _ | 2, _ | 3, _ | 4, _ | 5, _ => by decide
theorem ltV_nodup {N : Nat} {Y : List (List Int)} (h : Y.Pairwise (ltV N)) : Y.Nodup := h.imp fun q e => by subst e; exact ltV_irr q
theorem rp_of {K : Kn} {H : Hi} (hv : VHi H) {u : Int} (e : Nat) (hlen : lenE H u e ≤ 12) {V C U : Nat → Value} (hCU : ∀ q, q < lenE H u e → Froz K (C q) H.unit.toNat 1 (crow (ptE H u e q)) ∧ Froz K (U q) H.unit.toNat 1 (urow (wrow (ptE H u e q)))) :
    RP K H (PL H u (opsE H e)) (ptE H u e) V C U H.unit.toNat := by
  have key : ∀ q, q < lenE H u e → isP H u ((PL H u (opsE H e)).getD q 0) = true ∧ (PL H u (opsE H e)).getD q 0 < H.m := fun q hq => by
    have hm : (PL H u (opsE H e)).getD q 0 ∈ PL H u (opsE H e) := by
      unfold lenE at hq
      rw [List.getD_eq_getElem?_getD, List.getElem?_eq_getElem hq]; exact List.getElem_mem hq
    obtain ⟨h1, h2⟩ := List.mem_filter.1 hm
    exact ⟨h2, EI_lt h1⟩
  have hu1 := hv.u1
  refine ⟨hlen, fun q _ => rfl, fun q hq => ?_, fun q _ => rfl, fun q _ => rfl, fun q _ => rfl, fun q hq => ?_, fun q hq => (hCU q hq).1, fun q hq => (hCU q hq).2⟩
  · obtain ⟨h1, h2⟩ := key q hq
    obtain ⟨⟨k1, k2, _⟩, _⟩ := hv.ops _ h2
    unfold isP at h1
    rw [Bool.and_eq_true, Bool.not_eq_true', decide_eq_false_iff_not] at h1
    omega
  · obtain ⟨h1, h2⟩ := key q hq
    have hhi : (u + 1) * H.unit = u * H.unit + H.unit := by rw [Int.add_mul, Int.one_mul]
    show ((ptOf H u (opsE H e) ((PL H u (opsE H e)).getD q 0)).f).toNat + (ptOf H u (opsE H e) ((PL H u (opsE H e)).getD q 0)).n ≤ _
    generalize (PL H u (opsE H e)).getD q 0 = i at h1 h2
    have hpA : pA H u i = max (u * H.unit) (H.op i).f := rfl
    have hpB : pB H u i = min ((u + 1) * H.unit) ((H.op i).f + (H.op i).n) := rfl
    unfold isP at h1
    rw [Bool.and_eq_true, decide_eq_true_iff] at h1
    have h1 := h1.2
    unfold ptOf
    dsimp only
    omega
theorem hcx_xs {ι : Type} {P : Program} {K : Kn} {M : Nat → Prop} {f : FuncId} {xs xs' : List SV} {hp ro : Hp} {nx : Nat} {ψ : ι → Kn → Prop} {out : ι → Out} (h : HCX P K M f xs hp ro nx ψ out) (hx : ∀ β vs, RelL β xs' vs → RelL β xs vs) : HCX P K M f xs' hp ro nx ψ out :=
  fun B β w vs h1 h2 h3 h4 => h B β w vs h1 h2 (hx β vs h3) h4
set_option maxHeartbeats 16000000 in
theorem finalsR_hcx {K : Kn} {H : Hi} {vo vc : Value} {V : Nat → Value} (h : HOK K H vo vc V) (hv : VHi H) (u : Int) (hu : 0 ≤ u) (hu2 : (u + 1) * H.unit ≤ H.blocks) (hlen : ∀ e, e ≤ H.nc → lenE H u e ≤ 5) (hpw : (H.m + 1) ^ H.unit.toNat * 1956 ≤ LIM) :
    HCX Try.prog K M0 16 [hA H vo vc, i64 u] [] [] 0 (fun (z : Value × List (List Int) × (Nat → Value)) K' => VLs K' H.unit.toNat z ∧ FinS H u z.2.1) (fun z => ⟨.val z.1, [], 0⟩) := by
  have hb2 := hv.b2
  have hu1 := hv.u1
  have hu8 := hv.u8
  have hnc := h.nc
  have hN1 : 1 ≤ H.unit.toNat := by omega
  have hN8 : H.unit.toNat ≤ 8 := by omega
  obtain ⟨N, hN⟩ : ∃ N, N = H.unit.toNat := ⟨_, rfl⟩
  refine hcx_of_run Try.func16 rfl (fun B hB hK hpin => ?_)
  have hF0 : Fz B K M0 B K := .refl hB hK
  refine goT hB [(16, 13)] 400 rfl (by simp [conj]; omega) ?_
  refine run_freezeB hB hK 2 0 (L := 1) (off := 0) (sz := 1) (m := H.unit.toNat) (m' := H.unit.toNat) (cap := H.unit.toNat) (ap := .own) (g := fun _ k => (SV.int IntKind.i64 0).cells.getD k SV.und) rfl rfl rfl rfl (Nat.le_refl _) (fun a c _ hc => by obtain rfl : c = 0 := (by omega); rfl) rfl (fun _ => rfl) (fun _ => rfl) (fun zv B1 K1 hzv hF1 hp1 => ?_)
  have hpin1 := hpin.fz hF1 hp1
  have hz0 : GV N zV := by
    have := vok_zero H u
    exact ⟨this.len, fun k hk => this.hi k (by omega)⟩
  have hzv2 : Froz K1 zv N 1 (urow fun k => zV.getD k 0) := by
    rw [hN]
    refine hzv.congr fun a c _ hc => ?_
    obtain rfl : c = 0 := by omega
    show i64 (zV.getD a 0) = i64 0
    rw [show zV.getD a 0 = 0 from by rcases a with _ | _ | _ | _ | _ | _ | _ | _ | a <;> rfl]
  refine run_to hpin1 [0, 2] (nx' := 2) (rest' := []) (sl' := [(6, i64 ((0 : Nat) : Int)), (5, .sq 1 0 0 1 1 .own), (2, .ptr 0 0), (1, i64 u)]) (hp' := [(1, .row 0 1 1 1 (vrow fun _ => zv) 23), (0, hC H vo vc)]) rfl rfl (by simp [conj, less_rfl, ren_vrow, renR_vrow]; exact .rfl) ?_
  refine run_freeze hF1.ok hF1.le 5 rfl rfl (Nat.le_refl _) (fun a c _ _ => rfl) rfl (fun nv B2 K2 hnv hF2 hp2 => ?_)
  have hpin2 := hpin1.fz hF2 hp2
  have hF2' := hF1.trans0 hF2 hK fun _ h => h.elim
  refine run_loop ?_
  refine run_to hpin2 [0] (nx' := 1) (rest' := []) (sl' := [(6, i64 ((0 : Nat) : Int)), (5, .val nv), (2, .ptr 0 0), (1, i64 u)]) (hp' := [(0, hC H vo vc)]) rfl rfl (by simp [conj, less_rfl]) ?_
  refine run_invX (ι := Nat × Value × Value × List (List Int) × (Nat → Value)) hF2' hpin2 (fun x K' => x.1 ≤ H.nc + 1 ∧ Froz K' x.2.1 H.nc 1 (urow H.c) ∧ Froz K' x.2.2.1 x.2.2.2.1.length 1 (vrow x.2.2.2.2) ∧ VL K' N x.2.2.2.1 x.2.2.2.2 ∧ x.2.2.2.1.Pairwise (ltV N) ∧ ∀ v, v ∈ x.2.2.2.1 ↔ FS H u x.1 v)
    (fun x => H.nc + 1 - x.1) (fun x => [(6, i64 x.1), (5, .val x.2.2.1), (2, .ptr 0 0), (1, i64 u)]) (fun _ => []) (fun x => [(0, hC H vo x.2.1)]) (0, vc, nv, [zV], fun _ => zv)
    ⟨Nat.zero_le _, (h.c.fz hF1).fz hF2, hnv, VL.one hz0 (hzv2.fz hF2), List.pairwise_singleton _ _, fun v => by rw [List.mem_singleton]; rfl⟩ ?_
  rintro ⟨k, vc', nw, Y, YW⟩ B3 K3 hF3 hpin3 ⟨hk, hvc', hnw, hY, hYs, hYm⟩ ih
  dsimp only at hk hvc' hnw hY hYs hYm ih ⊢
  have hB3 := hF3.ok
  have hK3 := hF3.le
  have hlen12 : ∀ e, e ≤ H.nc → lenE H u e ≤ 12 := fun e he => by have := hlen e he; omega
  have hYc : Y.length ≤ (H.m + 1) ^ H.unit.toNat := vok_count hv Y (ltV_nodup hYs) fun v hx => fs_vok hv hlen12 k hk v ((hYm v).1 hx)
  have hvalK : HOK K3 H vo vc' V := ⟨h.o.mono (fun b o e => hF3.old b o e (fun h => h)), hvc', fun i hi => (h.v i hi).mono (fun b o e => hF3.old b o e (fun h => h)), h.m, h.nc, h.n⟩
  have hYb : Y.length * 1956 ≤ 5864062014805 := Nat.le_trans (Nat.mul_le_mul_right _ hYc) hpw
  refine goT hB3 [] 400 rfl (by clear ih; first | exact conj_nil | simp [conj]) ?_
  refine run_open hK3 16 hvc' (by decide) rfl (fun o1 => ?_)
  refine goT hB3 [(16, 18)] 400 rfl (by clear ih; first | exact conj_nil | simp [conj]) ?_
  refine run_close (.inl rfl) ?_
  by_cases hkl : k ≤ H.nc
  · refine run_tt (by simpa using hkl) ?_
    refine goT hB3 [] 400 rfl (by clear ih; first | exact conj_nil | simp [conj]) ?_
    refine run_callX (partsR_hcx hvalK hv u hu hu2 k) named hB3 hK3 (fun _ h => h.elim) (.inr fun _ h => h) [] rfl rfl rfl rfl (by first | exact conj_nil | simp [conj]) (by clear ih; simp [conj, less_rfl]) ?_
    rintro ⟨lv, C, U⟩ B4 K4 ⟨hlv, hCU⟩ hF4 hp4
    dsimp only at hlv hCU
    have hF4' := hF3.trans0 hF4 hK fun _ h => h.elim
    have hpin4 := hpin3.fz hF4 hp4
    have hB4 := hF4.ok
    have hK4 := hF4.le
    refine ⟨show 0 ≤ 0 by omega, _, _, _, rfl, rfl, rfl, ?_⟩
    refine goT hB4 [] 400 rfl (by clear ih; first | exact conj_nil | simp [conj]) ?_
    refine run_to hpin4 [0] (nx' := 1) (rest' := []) (sl' := [(9, i64 ((0 : Nat) : Int)), (8, .nilsl), (7, .val lv), (6, i64 k), (5, .val nw), (2, .ptr 0 0), (1, i64 u)]) (hp' := [(0, hC H vo vc')]) rfl rfl (by clear ih; simp [conj, less_rfl]) ?_
    refine run_openBN hK4 0 3 (hvc'.fz hF4) (by decide) rfl rfl (fun _ => rfl) (fun _ => rfl) hpin4 (Nat.zero_le _) (fun oc B5 hM5 hD5 hpin5 hkn5 => ?_)
    have hB5 : B5.ok := by intro x o hx; rw [hM5.w]; rw [hD5] at hx; exact hB4 x o hx
    have hK5 : ∀ b o, K4 b = some o → B5.D b = some o := fun b o e => by rw [hD5]; exact hK4 b o e
    have hF5 : Fz B5 K4 M0 B5 K4 := .refl hB5 hK5
    refine run_open hK5 7 hlv (by decide) rfl (fun ol => ?_)
    refine run_open hK5 5 (hnw.fz hF4) (by decide) rfl (fun on => ?_)
    refine run_loop ?_
    obtain ⟨n, hn⟩ : ∃ n, n = lenE H u k := ⟨_, rfl⟩
    obtain ⟨q, hq⟩ : ∃ q, q = sqOf (ptE H u k) n (decide (k = H.nc)) := ⟨_, rfl⟩
    rw [← hn]
    have hn5 : n ≤ 5 := by rw [hn]; exact hlen k hkl
    refine run_to hpin5 [0, 1, 2, 3, 4] (nx' := 5) (rest' := []) (sl' := [(9, i64 ((0 : Nat) : Int)), (8, .sq 4 0 0 1 0 .own), (7, .sq 2 ol 0 9 n .no), (6, i64 k), (5, .sq 3 on 0 1 Y.length .no), (2, .ptr 0 0), (1, i64 u)]) (hp' := [(0, .cells [i64 H.unit, i64 H.blocks, .val vo, .sq 1 oc 0 1 H.nc .no] 25), (4, .row 0 0 0 1 (vrow fun _ => nw) 23)]) rfl rfl (by clear ih; simp [conj, less_rfl, ren_vrow, renR_vrow, ren_rprow, renR_rprow, ren_urow, renR_urow]) ?_
    refine run_invX (ι := Nat × List (List Int) × (Nat → Value)) hF5 hpin5 (fun x K' => x.1 ≤ Y.length ∧ VL K' N x.2.1 x.2.2 ∧ (∀ w, w ∈ x.2.1 ↔ ∃ v, v ∈ Y.take x.1 ∧ SpR q (0, v) [] w) ∧ x.2.1.length ≤ x.1 * 1956) (fun x => Y.length - x.1)
      (fun x => [(9, i64 x.1), (8, .sq 4 0 0 1 x.2.1.length .own), (7, .sq 2 ol 0 9 n .no), (6, i64 k), (5, .sq 3 on 0 1 Y.length .no), (2, .ptr 0 0), (1, i64 u)]) (fun _ => [])
      (fun x => [(0, .cells [i64 H.unit, i64 H.blocks, .val vo, .sq 1 oc 0 1 H.nc .no] 25), (4, .row 0 x.2.1.length x.2.1.length 1 (vrow x.2.2) 23)]) (0, [], fun _ => nw) ⟨Nat.zero_le _, VL.nil _ _ _, fun w => by simp, Nat.zero_le _⟩ ?_
    rintro ⟨i, X, XW⟩ B6 K6 hF6 hpin6 ⟨hi, hX, hXm, hXl⟩ ihi
    dsimp only at hi hX hXm hXl ihi ⊢
    have hB6 := hF6.ok
    have hK6 := hF6.le
    refine goT hB6 [(16, 28)] 400 rfl (by clear ih ihi; first | exact conj_nil | simp [conj]) ?_
    by_cases hin : i < Y.length
    · have e0 : 0 + ((i : Nat) : Int).toNat = i := by omega
      refine run_tt (by simpa using hin) ?_
      refine goT hB6 [] 400 rfl (by clear ih ihi; simp [conj, hin]; omega) ?_
      rw [e0]
      have hyi := hY i hin
      obtain ⟨y, hy⟩ : ∃ y, y = Y.getD i [] := ⟨_, rfl⟩
      rw [← hy] at hyi
      have htk : Y.take (i + 1) = Y.take i ++ [y] := by
        rw [hy, List.take_succ_eq_append_getElem hin, List.getD_eq_getElem?_getD, List.getElem?_eq_getElem hin]; rfl
      have hc0 : cntU 0 n = n := by
        have : ∀ m, cntU 0 m = m := fun m => by
          induction m with
          | zero => rfl
          | succ m ih => rw [cntU_succ, ih]; simp
        exact this n
      have h56 : cntR n n ≤ 1956 := cntR5 n hn5
      have hxi : X.length + 1956 ≤ (i + 1) * 1956 := by omega
      have hx2 : (i + 1) * 1956 ≤ (H.m + 1) ^ H.unit.toNat * 1956 := Nat.mul_le_mul_right _ (by omega)
      have hmono : ∀ b o, K4 b = some o → K6 b = some o := fun b o e => hF6.old b o e (fun h => h)
      have hR := (rp_of hv (u := u) (V := V) k (by omega) hCU).mono hmono
      rw [← hN] at hR
      have hrec := searchR_hcx H (PL H u (opsE H k)) (ptE H u k) V C U N (decide (k = H.nc)) (by omega) (by omega) n hn (n + 1) K6 ol 0 y (YW i) [] (.slice none 0 0) (fun _ => nw) X XW hR (by decide) (by omega) hyi.1 (((hyi.2.fz hF4).mono hmono)) (Froz.nil _ _ _) (VL.nil _ _ _) hX (by rw [hc0]; exact Nat.le_of_eq (Nat.zero_add n)) (by rw [hc0]; omega)
      rw [← hq] at hrec
      have hrec := hcx_xs (xs' := [.sq 2 ol 0 9 n .no, .sq 0 0 0 1 n .no, .val (YW i), .nilsl, .sb (decide (k = H.nc)), .sq 1 0 0 1 X.length .own]) hrec (fun β vs ⟨v1, _, e1, h1, v2, _, e2, h2, v3, _, e3, h3, v4, _, e4, h4, h5⟩ => ⟨v1, _, e1, h1, v2, _, e2, h2, v3, _, e3, h3, v4, _, e4, ⟨h4, rfl⟩, h5⟩)
      refine run_callX hrec named hB6 hK6 (fun _ h => h.elim) (.inr fun _ h => h) [8, 4, 2] rfl rfl rfl rfl (by clear ih ihi hrec; first | exact conj_nil | simp [conj]) (by
        clear ih ihi hrec
        simp [conj, less_rfl, ren_rprow, renR_rprow, ren_vrow, renR_vrow, ren_tbrow, renR_tbrow]
        refine ⟨by omega, fun i _ => ?_⟩
        have : tbrow 0 i 0 = .sb false := by simp [tbrow]
        rw [this]
        exact fun _ _ h => h) ?_
      rintro ⟨X2, XW2⟩ B7 K7 ⟨hX2, hX2m, hX2l⟩ hF7 hp7
      dsimp only at hX2 hX2m hX2l
      rw [hc0] at hX2l
      have hF7' := hF6.trans0 hF7 hK5 fun _ h => h.elim
      have hpin7 := hpin6.fz hF7 hp7
      have ihi := ihi (i + 1, X2, XW2) B7 K7 hF7' hpin7 ⟨hin, hX2, fun w => by
        show w ∈ X2 ↔ ∃ v, v ∈ Y.take (i + 1) ∧ SpR q (0, v) [] w
        rw [hX2m w, hXm w, htk]
        constructor
        · rintro (⟨v, h1, h2⟩ | h)
          · exact ⟨v, List.mem_append_left _ h1, h2⟩
          · exact ⟨y, List.mem_append_right _ (List.mem_singleton.2 rfl), h⟩
        · rintro ⟨v, h1, h2⟩
          rw [List.mem_append, List.mem_singleton] at h1
          rcases h1 with h1 | rfl
          · exact .inl ⟨v, h1, h2⟩
          · exact .inr h2, by show X2.length ≤ (i + 1) * 1956; omega⟩ (by show Y.length - (i + 1) < Y.length - i; omega)
      dsimp only at ihi
      refine ⟨show 3 ≤ 4 by omega, _, _, _, rfl, rfl, rfl, ?_⟩
      refine goT hF7.ok [] 400 rfl (by clear ih ihi hrec; simp [conj, Fits_i64]; omega) ?_
      refine run_back ?_
      refine run_to hpin7 [0, 1, 2, 3, 19] rfl rfl ?_ ihi
      clear ih ihi hrec
      simp [conj, less_rfl, ren_rprow, renR_rprow, ren_vrow, renR_vrow, ren_urow, renR_urow]
    · clear ihi
      have : Y.length = i := by omega
      subst this
      refine run_ff (by simp) ?_
      refine run_shutN (K := K6) (r := 1) (off := oc) (sz := 1) (m := H.nc) (ap := .no) (g := urow H.c) (fun h0 => by
        obtain ⟨b, c, tt, fz, g1, g2, g3⟩ := hkn5 h0
        exact ⟨b, c, tt, fz, hF6.pin _ _ g1, hF6.old b _ g2 (fun h => h), g3⟩) 0 3 rfl rfl (fun _ => rfl) (fun vc2 hvc2 => ?_)
      refine run_close (.inl rfl) ?_
      refine run_close (.inl rfl) ?_
      refine run_close (.inl rfl) ?_
      obtain ⟨hFu, hMu⟩ := hF6.unpin hM5
      refine run_unpin hMu ?_
      have hFu' := hF4'.trans0 hFu hK fun _ h => h.elim
      have hpin8 : PinTo (B6.rep B4) 0 := ⟨hpin4.p, hFu.kd.trans hpin4.k⟩
      refine goT hFu.ok [] 400 rfl (by clear ih; first | exact conj_nil | simp [conj]) ?_
      refine run_callX (uniqueR_hcx (K := K6) N (by omega) (by omega) X XW hX (by omega)) named hFu.ok hFu.le (fun _ h => h.elim) (.inr fun _ h => h) [4] rfl rfl rfl rfl (by clear ih; first | exact conj_nil | simp [conj]) (by clear ih; simp [conj, less_rfl, ren_vrow, renR_vrow]) ?_
      rintro ⟨nw2, Y2, YW2⟩ B7 K7 ⟨hnw2, hY2, hY2s, hY2m, hY2l⟩ hF7 hp7
      dsimp only at hnw2 hY2 hY2s hY2m hY2l
      have hF7' := hFu'.trans0 hF7 hK fun _ h => h.elim
      refine ⟨show 1 ≤ 1 by omega, _, _, _, rfl, rfl, rfl, ?_⟩
      have ih := ih (k + 1, vc2, nw2, Y2, YW2) B7 K7 hF7' (hpin8.fz hF7 hp7) ⟨by show k + 1 ≤ _; omega, hvc2.fz hF7, hnw2, hY2, hY2s, fun w => by
        show w ∈ Y2 ↔ FS H u (k + 1) w
        rw [hY2m w, hXm w, List.take_length]
        show _ ↔ ∃ v, FS H u k v ∧ (lget (aftL (ptE H u k) (lenE H u k) (decide (k = H.nc)) v) w).isSome = true
        constructor
        · rintro ⟨v, h1, h2⟩
          rw [hq, hn] at h2
          exact ⟨v, (hYm v).1 h1, (spR_aft _ _ _ (by omega) v w).1 h2⟩
        · rintro ⟨v, h1, h2⟩
          refine ⟨v, (hYm v).2 h1, ?_⟩
          rw [hq, hn]
          exact (spR_aft _ _ _ (by omega) v w).2 h2⟩ (by show H.nc + 1 - (k + 1) < H.nc + 1 - k; omega)
      dsimp only at ih
      refine goT hF7.ok [] 400 rfl (by clear ih; simp [conj, Fits_i64]; omega) ?_
      refine run_back ?_
      refine run_to (hpin8.fz hF7 hp7) [0] rfl rfl ?_ ih
      clear ih
      simp [conj, less_rfl]
  · clear ih
    have : k = H.nc + 1 := by omega
    subst this
    refine run_ff (by simp; omega) ?_
    refine goT hB3 [] 400 rfl (by first | exact conj_nil | simp [conj]) ?_
    refine run_retF hF3 hpin3 (nw, Y, YW) ⟨⟨hnw, fun i hi => by rw [← hN]; exact (hY i hi).2⟩, by rw [← hN]; exact hYs, hYm⟩ [] rfl rfl (by first | exact conj_nil | simp [conj]) rfl ?_
    simp [conj, less_rfl]
end Sx
