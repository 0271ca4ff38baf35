/- Package judge: parts. Conditions: as each theorem says. -/
import Derived.Test.YtdjckiilfplnfaaJg
set_option linter.unusedSimpArgs false
set_option linter.unusedVariables false
namespace Sx
open Go Go.Proofs
set_option maxRecDepth 100000
set_option pp.deepTerms true
set_option pp.maxSteps 10000000
/-- A part. -/
structure PT where
  w : Bool
  d : Bool
  du : Bool
  b : Int
  e : Int
  f : Int
  n : Nat
  v : Nat → Int
def prow (P : Nat → PT) (V : Nat → Value) : Nat → Nat → SV := fun i k => match k with
  | 0 => .sb (P i).w
  | 1 => .sb (P i).d
  | 2 => .sb (P i).du
  | 3 => i64 (P i).b
  | 4 => i64 (P i).e
  | 5 => i64 (P i).f
  | _ => .val (V i)
theorem ren_prow (nx : Nat) (sg : List Nat) (P : Nat → PT) (V : Nat → Value) (i k : Nat) : ren nx sg (prow P V i k) = prow P V i k := by
  unfold prow; split <;> simp only [ren, renF, id]
theorem renR_prow (nx : Nat) (sg : List Nat) (P : Nat → PT) (V : Nat → Value) : renR nx sg (prow P V) = prow P V := by funext i k; exact ren_prow nx sg P V i k
def pA (H : Hi) (u : Int) (i : Nat) : Int := max (u * H.unit) (H.op i).f
def pB (H : Hi) (u : Int) (i : Nat) : Int := min ((u + 1) * H.unit) ((H.op i).f + (H.op i).n)
def isP (H : Hi) (u : Int) (i : Nat) : Bool := !decide ((H.op i).k = 2) && decide (pA H u i < pB H u i)
def ptOf (H : Hi) (u : Int) (l : List Nat) (i : Nat) : PT :=
  ⟨decide ((H.op i).k = 1), decide (0 ≤ (H.op i).e), decide ((H.op i).k = 1) && decide (0 ≤ (H.op i).e) && ((H.op i).fo || anyFl H (H.op i).e l), (H.op i).b, (H.op i).e, pA H u i - u * H.unit, (pB H u i - pA H u i).toNat, fun q => (H.op i).v ((pA H u i - (H.op i).f).toNat + q)⟩
/-- The parts of a unit among operations. -/
def PL (H : Hi) (u : Int) (l : List Nat) : List Nat := l.filter (isP H u)
def pts (H : Hi) (u : Int) (l l' : List Nat) : Nat → PT := fun q => ptOf H u l (l'.getD q 0)
theorem prow_closed (P : Nat → PT) (V : Nat → Value) (i k : Nat) : (prow P V i k).closed = true := by unfold prow; split <;> rfl
theorem app_prow (H : Hi) (u : Int) (l L : List Nat) (i : Nat) (PV : Nat → Value) (pv : Value) (T : PT) (hT : T = ptOf H u l i) (w d dv : SV) (hw : Less (.sb T.w) w) (hd : Less (.sb T.d) d) (hdv : Less (.sb T.du) dv) (j k : Nat) (hj : j < L.length + 1) (hk : k < 7) : Less (prow (pts H u l (L ++ [i])) (fun q => if q = L.length then pv else PV q) j k) (appF (prow (pts H u l L) PV) L.length (fun j k => [w, d, dv, SV.int IntKind.i64 T.b, SV.int IntKind.i64 T.e, SV.int IntKind.i64 T.f, SV.val pv][j * 7 + k]?.getD SV.und) j k) := by
  unfold appF
  by_cases h : j < L.length
  · have hb : Nat.blt j L.length = true := by simpa [Nat.blt_eq] using h
    have hne : j ≠ L.length := by omega
    have e : pts H u l (L ++ [i]) j = pts H u l L j := by unfold pts; rw [List.getD_eq_getElem?_getD, List.getElem?_append_left h, ← List.getD_eq_getElem?_getD]
    rw [hb, cond_true]
    refine Less.of ?_
    unfold prow
    dsimp only
    rw [e, if_neg hne]
  · have : j = L.length := by omega
    subst this
    have hb : Nat.blt L.length L.length = false := by
      cases hq : Nat.blt L.length L.length with
      | false => rfl
      | true => rw [Nat.blt_eq] at hq; omega
    have e : pts H u l (L ++ [i]) L.length = T := by rw [hT]; unfold pts; simp
    rw [hb, cond_false, Nat.sub_self]
    unfold prow
    dsimp only
    rw [e, if_pos rfl]
    match k, hk with
    | 0, _ => exact hw
    | 1, _ => exact hd
    | 2, _ => exact hdv
    | 3, _ => exact .rfl
    | 4, _ => exact .rfl
    | 5, _ => exact .rfl
    | 6, _ => exact .rfl
set_option maxHeartbeats 8000000 in
theorem parts_hcx {K : Kn} {H : Hi} {vo vc : Value} {V : Nat → Value} (h : HOK K H vo vc V) (hv : VHi H) (u : Int) (hu : 0 ≤ u) (hu2 : (u + 1) * H.unit ≤ H.blocks) (l : List Nat) (hl : l.length ≤ 100) (hlm : ∀ k ∈ l, k < H.m) (w : Value) (hw : Froz K w l.length 1 (urow (lrow l))) :
    HCX Try.prog K M0 39 [hA H vo vc, i64 u, .val w] [] [] 0 (fun (y : Value × (Nat → Value)) K' => Froz K' y.1 (PL H u l).length 7 (prow (pts H u l (PL H u l)) y.2) ∧ ∀ q, q < (PL H u l).length → Froz K' (y.2 q) (pts H u l (PL H u l) q).n 1 (urow (pts H u l (PL H u l) q).v)) (fun y => ⟨.val y.1, [], 0⟩) := by
  have hb2 := hv.b2
  have hu1 := hv.u1
  have hu8 := hv.u8
  have hlo : 0 ≤ u * H.unit := Int.mul_nonneg hu (by omega)
  have hhi : (u + 1) * H.unit = u * H.unit + H.unit := by rw [Int.add_mul, Int.one_mul]
  have huu : u ≤ u * H.unit := by
    have := Int.mul_le_mul_of_nonneg_left hu1 hu
    omega
  refine hcx_of_run Try.func39 rfl (fun B hB hK hpin => ?_)
  have hF0 : Fz B K M0 B K := .refl hB hK
  refine goT hB [] 400 rfl (by simp [conj, Fits_i64]; omega) ?_
  refine run_open hK 24 hw (by decide) rfl (fun ol => ?_)
  refine goT hB [] 400 rfl (by first | exact conj_nil | simp [conj]) ?_
  refine run_loop ?_
  refine run_inv (ι := Nat × (Nat → Value)) hpin (fun x => x.1 ≤ l.length ∧ ∀ q, q < (PL H u (l.take x.1)).length → Froz K (x.2 q) (pts H u l (PL H u (l.take x.1)) q).n 1 (urow (pts H u l (PL H u (l.take x.1)) q).v)) (fun x => l.length - x.1)
    (fun x => [(26, i64 x.1), (6, .sq 1 0 0 7 (PL H u (l.take x.1)).length .own), (25, i64 l.length), (24, .sq 12 ol 0 1 l.length .no), (8, i64 ((u + 1) * H.unit)), (7, i64 (u * H.unit)), (3, .ptr 0 0), (2, .val w)]) (fun _ => [])
    (fun x => [(0, hC H vo vc), (1, .row 0 (PL H u (l.take x.1)).length (PL H u (l.take x.1)).length 7 (prow (pts H u l (PL H u (l.take x.1))) x.2) 90)]) 13 (0, fun _ => vo) ⟨Nat.zero_le _, fun q hq => absurd hq (Nat.not_lt_zero _)⟩ [0, 1, 2, 3, 4, 5, 6, 7, 8, 9, 10, 11, 12] rfl rfl (by simp [conj, less_rfl, ren_urow, renR_urow, PL]) ?_
  rintro ⟨j, PV⟩ ⟨hj, hPV⟩ ih
  dsimp only at hj hPV ih ⊢
  refine goT hB [(39, 27)] 400 rfl (by clear ih; first | exact conj_nil | simp [conj]) ?_
  by_cases hjl : j < l.length
  · have e0 : 0 + ((j : Nat) : Int).toNat = j := by omega
    refine run_tt (by simpa using hjl) ?_
    refine goT hB [] 400 rfl (by clear ih; simp [conj, hjl]) ?_
    rw [e0, lrow_at hjl]
    have him : l[j] < H.m := hlm _ (List.getElem_mem hjl)
    have htk : l.take (j + 1) = l.take j ++ [l[j]] := List.take_succ_eq_append_getElem hjl
    generalize l[j] = i at him htk
    refine run_open hK 31 h.o (by decide) rfl (fun oo => ?_)
    refine goT hB [] 9 rfl (by clear ih; simp [conj, him]) ?_
    have e1 : 0 + ((i : Nat) : Int).toNat = i := by omega
    rw [e1]
    obtain ⟨⟨k1, k2, k3, k4⟩, k5, k6, k7, k8, k9, k10⟩ := hv.ops i him
    have hni := h.n i
    have hpA : pA H u i = max (u * H.unit) (H.op i).f := rfl
    have hpB : pB H u i = min ((u + 1) * H.unit) ((H.op i).f + (H.op i).n) := rfl
    have hisP : isP H u i = (!decide ((H.op i).k = 2) && decide (pA H u i < pB H u i)) := rfl
    refine run_close (.inl rfl) ?_
    refine run_openBN hK 14 2 (h.v i him) (by decide) rfl rfl (fun _ => rfl) (fun _ => rfl) hpin (Nat.zero_le _) (fun ov B' hM' hD' hpin' hkn' => ?_)
    have hB' : B'.ok := by intro x o hx; rw [hM'.w]; rw [hD'] at hx; exact hB x o hx
    refine goT hB' [(39, 49)] 400 rfl (by clear ih; simp [conj, Fits_i64]; omega) ?_
    by_cases q1 : (H.op i).k = 2
    · refine run_tt (by simpa using q1) ?_
      have hno : isP H u i = false := by rw [hisP]; simp [q1]
      have hPL : PL H u (l.take (j + 1)) = PL H u (l.take j) := by unfold PL; rw [htk, List.filter_append]; simp [hno]
      have ih := ih (j + 1, PV) ⟨by show j + 1 ≤ _; omega, by show ∀ q, q < (PL H u (l.take (j + 1))).length → _; rw [hPL]; exact hPV⟩ (by show l.length - (j + 1) < l.length - j; omega)
      dsimp only at ih
      rw [hPL] at ih
      refine goT hB' [] 400 rfl (by clear ih; simp [conj, Fits_i64]; omega) ?_
      refine run_back ?_
      refine run_close (.inl rfl) ?_
      refine run_unpin hM' ?_
      refine run_to hpin [0, 1, 2, 3, 4, 5, 6, 7, 8, 9, 10, 11, 12] rfl rfl ?_ ih
      clear ih
      simp [conj, less_rfl, ren_prow, renR_prow, ren_urow, renR_urow]
    refine run_ff (by simpa using q1) ?_
    refine goT hB' [(39, 53)] 400 rfl (by clear ih; first | exact conj_nil | simp [conj]) ?_
    by_cases q2 : pB H u i ≤ pA H u i
    · refine run_tt (by rw [hpA, hpB] at q2; simpa using q2) ?_
      have hno : isP H u i = false := by rw [hisP]; simp; omega
      have hPL : PL H u (l.take (j + 1)) = PL H u (l.take j) := by unfold PL; rw [htk, List.filter_append]; simp [hno]
      have ih := ih (j + 1, PV) ⟨by show j + 1 ≤ _; omega, by show ∀ q, q < (PL H u (l.take (j + 1))).length → _; rw [hPL]; exact hPV⟩ (by show l.length - (j + 1) < l.length - j; omega)
      dsimp only at ih
      rw [hPL] at ih
      refine goT hB' [] 400 rfl (by clear ih; simp [conj, Fits_i64]; omega) ?_
      refine run_back ?_
      refine run_close (.inl rfl) ?_
      refine run_unpin hM' ?_
      refine run_to hpin [0, 1, 2, 3, 4, 5, 6, 7, 8, 9, 10, 11, 12] rfl rfl ?_ ih
      clear ih
      simp [conj, less_rfl, ren_prow, renR_prow, ren_urow, renR_urow]
    refine run_ff (by rw [hpA, hpB] at q2; simpa using q2) ?_
    refine goT hB' [(39, 81)] 400 rfl (by clear ih; simp [conj, Fits_i64]; omega) ?_
    have hyes : isP H u i = true := by rw [hisP]; simp [q1]; omega
    have hPL : PL H u (l.take (j + 1)) = PL H u (l.take j) ++ [i] := by unfold PL; rw [htk, List.filter_append]; simp [hyes]
    obtain ⟨b, c, tt, fz, p1, p2, p3⟩ := hkn' (by omega)
    refine run_shutP p1 p2 p3 (by simp; omega) 55 6 rfl rfl (fun _ => rfl) (fun pv hpv => ?_)
    refine run_close (.inl rfl) ?_
    refine run_unpin hM' ?_
    obtain ⟨T, hTe⟩ : ∃ T, T = ptOf H u l i := ⟨_, rfl⟩
    have hT : T = ⟨decide ((H.op i).k = 1), decide (0 ≤ (H.op i).e), decide ((H.op i).k = 1) && decide (0 ≤ (H.op i).e) && ((H.op i).fo || anyFl H (H.op i).e l), (H.op i).b, (H.op i).e, pA H u i - u * H.unit, (pB H u i - pA H u i).toNat, fun q => (H.op i).v ((pA H u i - (H.op i).f).toNat + q)⟩ := hTe
    have hpv2 : Froz K pv (ptOf H u l i).n 1 (urow (ptOf H u l i).v) := by
      rw [← hTe, hT]
      have en : (min ((u + 1) * H.unit) ((H.op i).f + (H.op i).n) - (H.op i).f).toNat - (max (u * H.unit) (H.op i).f - (H.op i).f).toNat = (pB H u i - pA H u i).toNat := by omega
      show Froz K pv (pB H u i - pA H u i).toNat 1 _
      rw [← en]
      exact hpv.congr fun a c _ _ => by rw [Nat.zero_add]; rfl
    refine run_to hpin [0, 1, 2, 3, 4, 5, 6, 7, 8, 9, 10, 11, 12, 14, 55] (nx' := 15) (rest' := []) (sl' := [(81, .sb T.w), (14, .ptr 14 0), (11, .ptr 13 0), (26, i64 j), (6, .sq 1 0 0 7 (PL H u (l.take j)).length .own), (25, i64 l.length), (24, .sq 12 ol 0 1 l.length .no), (8, i64 ((u + 1) * H.unit)), (7, i64 (u * H.unit)), (3, .ptr 0 0), (2, .val w)]) (hp' := [(14, .cells [.sb T.w, .sb T.d, .ff, i64 T.b, i64 T.e, i64 T.f, .val pv] 90), (13, .cells [.und, .und, .und, .und, i64 (H.op i).e, .sb (H.op i).fo] 39), (0, hC H vo vc), (1, .row 0 (PL H u (l.take j)).length (PL H u (l.take j)).length 7 (prow (pts H u l (PL H u (l.take j))) PV) 90)]) rfl rfl ?_ ?_
    · clear ih
      rw [hT]
      simp [conj, less_rfl, ren_prow, renR_prow, ren_urow, renR_urow, hpA]
    have hPLl : (PL H u (l.take j)).length ≤ j := by
      refine Nat.le_trans (List.length_filter_le _ _) ?_
      rw [List.length_take]; omega
    have ih := ih (j + 1, fun q => if q = (PL H u (l.take j)).length then pv else PV q) ⟨by show j + 1 ≤ _; omega, by
      show ∀ q, q < (PL H u (l.take (j + 1))).length → _
      rw [hPL]
      intro q hq
      rw [List.length_append] at hq
      by_cases hqe : q = (PL H u (l.take j)).length
      · dsimp only
        rw [if_pos hqe, hqe]
        have e : pts H u l (PL H u (l.take j) ++ [i]) (PL H u (l.take j)).length = ptOf H u l i := by unfold pts; simp
        rw [e]; exact hpv2
      · dsimp only
        rw [if_neg hqe]
        have hlt : q < (PL H u (l.take j)).length := by simp at hq; omega
        have e : pts H u l (PL H u (l.take j) ++ [i]) q = pts H u l (PL H u (l.take j)) q := by unfold pts; rw [List.getD_eq_getElem?_getD, List.getElem?_append_left hlt, ← List.getD_eq_getElem?_getD]
        rw [e]; exact hPV q hlt⟩ (by show l.length - (j + 1) < l.length - j; omega)
    dsimp only at ih
    rw [hPL, List.length_append, List.length_singleton] at ih
    have happ := app_prow H u l (PL H u (l.take j)) i PV pv T hTe
    cases hw1 : T.w with
    | true =>
      refine run_tt rfl ?_
      refine goT hB [(39, 84)] 400 rfl (by clear ih; simp [conj, Fits_i64]) ?_
      cases hd1 : T.d with
      | false =>
        refine run_ff rfl ?_
        refine goT hB [] 400 rfl (by clear ih; simp [conj, Fits_i64]; omega) ?_
        have hdu : T.du = false := by rw [hT] at hd1 ⊢; dsimp only at hd1 ⊢; rw [hd1, Bool.and_false, Bool.false_and]
        refine run_back ?_
        refine run_to hpin [0, 16, 2, 3, 4, 5, 6, 7, 8, 9, 10, 11, 12] rfl rfl ?_ ih
        clear ih
        rw [hw1, hd1, hdu] at happ
        simp [conj, less_rfl, ren_prow, renR_prow, ren_urow, renR_urow]
        exact fun a c ha hc => happ (.sb true) (.sb false) .ff (fun _ _ h => h) (fun _ _ h => h) (fun _ _ h => h) a c ha hc
      | true =>
        refine run_tt rfl ?_
        refine goT hB [(39, 88)] 400 rfl (by clear ih; simp [conj, Fits_i64]) ?_
        cases hf1 : (H.op i).fo with
        | true =>
          refine run_tt rfl ?_
          refine goT hB [] 400 rfl (by clear ih; simp [conj, Fits_i64]; omega) ?_
          have hdu : T.du = true := by
            rw [hT] at hd1 hw1 ⊢; dsimp only at hd1 hw1 ⊢; rw [hd1, hw1, hf1]; rfl
          refine run_back ?_
          refine run_to hpin [0, 16, 2, 3, 4, 5, 6, 7, 8, 9, 10, 11, 12] rfl rfl ?_ ih
          clear ih
          rw [hw1, hd1, hdu] at happ
          simp [conj, less_rfl, ren_prow, renR_prow, ren_urow, renR_urow]
          exact fun a c ha hc => happ (.sb true) (.sb true) .tt (fun _ _ h => h) (fun _ _ h => h) (fun _ _ h => h) a c ha hc
        | false =>
          refine run_ff rfl ?_
          refine goT hB [] 400 rfl (by clear ih; simp [conj, Fits_i64]) ?_
          refine run_callCK (someFl_hck h (H.op i).e l hl hlm w hw) named hB hK [0, 13] rfl rfl rfl rfl (by first | exact conj_nil | simp [conj]) (by clear ih; simp [conj, less_rfl]) ?_
          rintro ⟨⟩ _
          refine ⟨show 2 ≤ 2 by omega, _, _, _, rfl, rfl, rfl, ?_⟩
          refine goT hB [(39,93)] 400 rfl (by clear ih; first | exact conj_nil | simp [conj, Fits_i64]) ?_
          have hdu : T.du = anyFl H (H.op i).e l := by
            rw [hT] at hd1 hw1 ⊢; dsimp only at hd1 hw1 ⊢; rw [hd1, hw1, hf1]; simp
          cases ha1 : anyFl H (H.op i).e l with
          | true =>
            refine run_tt rfl ?_
            refine goT hB [] 400 rfl (by clear ih; simp [conj, Fits_i64]; omega) ?_
            rw [ha1] at hdu
            refine run_back ?_
            refine run_to hpin [0, 16, 2, 3, 4, 5, 6, 7, 8, 9, 10, 11, 12] rfl rfl ?_ ih
            clear ih
            rw [hw1, hd1, hdu] at happ
            simp [conj, less_rfl, ren_prow, renR_prow, ren_urow, renR_urow]
            exact fun a c ha hc => happ (.sb true) (.sb true) .tt (fun _ _ h => h) (fun _ _ h => h) (fun _ _ h => h) a c ha hc
          | false =>
            refine run_ff rfl ?_
            refine goT hB [] 400 rfl (by clear ih; simp [conj, Fits_i64]; omega) ?_
            rw [ha1] at hdu
            refine run_back ?_
            refine run_to hpin [0, 16, 2, 3, 4, 5, 6, 7, 8, 9, 10, 11, 12] rfl rfl ?_ ih
            clear ih
            rw [hw1, hd1, hdu] at happ
            simp [conj, less_rfl, ren_prow, renR_prow, ren_urow, renR_urow]
            exact fun a c ha hc => happ (.sb true) (.sb true) .ff (fun _ _ h => h) (fun _ _ h => h) (fun _ _ h => h) a c ha hc
    | false =>
      refine run_ff rfl ?_
      refine goT hB [] 400 rfl (by clear ih; simp [conj, Fits_i64]; omega) ?_
      have hdu : T.du = false := by rw [hT] at hw1 ⊢; dsimp only at hw1 ⊢; rw [hw1]; rfl
      refine run_back ?_
      refine run_to hpin [0, 16, 2, 3, 4, 5, 6, 7, 8, 9, 10, 11, 12] rfl rfl ?_ ih
      clear ih
      rw [hw1, hdu] at happ
      simp [conj, less_rfl, ren_prow, renR_prow, ren_urow, renR_urow]
      exact fun a c ha hc => happ (.sb false) (.sb T.d) .ff (fun _ _ h => h) (fun _ _ h => h) (fun _ _ h => h) a c ha hc
  · clear ih
    have hjl' : j = l.length := by omega
    subst hjl'
    refine run_ff (by simp) ?_
    refine goT hB [] 400 rfl (by first | exact conj_nil | simp [conj]) ?_
    refine run_close (.inl rfl) ?_
    rw [List.take_length]
    rw [List.take_length] at hPV
    refine run_freeze hB hK 6 rfl rfl (Nat.le_refl _) (fun a c _ _ => prow_closed _ _ a c) rfl (fun v5 B5 K5 hv5 hF5 hp5 => ?_)
    refine run_retF hF5 (hpin.fz hF5 hp5) (v5, PV) ⟨hv5, fun q hq => (hPV q hq).fz hF5⟩ [] rfl rfl (by first | exact conj_nil | simp [conj]) rfl ?_
    simp [conj, less_rfl]
end Sx
