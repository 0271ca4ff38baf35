/- Texts of this law, joined: what the functions do. Conditions: as each theorem says. -/
import Derived.Test.YtdjckiilfplnfaaOwnX2
import Derived.Test.YtdjckiilfplnfaaEngX5
set_option linter.unusedSimpArgs false
set_option linter.unusedVariables false
section
/- Package judge: parts. Conditions: as each theorem says. -/
namespace Sx
open Go Go.Proofs
set_option maxRecDepth 100000
set_option pp.deepTerms true
set_option pp.maxSteps 10000000
/-- A part. -/
structure PT where
  w : Bool
  d : Bool
  du : Bool
  b : Int
  e : Int
  f : Int
  n : Nat
  v : Nat → Int
def prow (P : Nat → PT) (V : Nat → Value) : Nat → Nat → SV := fun i k => match k with
  | 0 => .sb (P i).w
  | 1 => .sb (P i).d
  | 2 => .sb (P i).du
  | 3 => i64 (P i).b
  | 4 => i64 (P i).e
  | 5 => i64 (P i).f
  | _ => .val (V i)
theorem ren_prow (nx : Nat) (sg : List Nat) (P : Nat → PT) (V : Nat → Value) (i k : Nat) : ren nx sg (prow P V i k) = prow P V i k := by
  unfold prow; split <;> simp only [ren, renF, id]
theorem renR_prow (nx : Nat) (sg : List Nat) (P : Nat → PT) (V : Nat → Value) : renR nx sg (prow P V) = prow P V := by funext i k; exact ren_prow nx sg P V i k
def pA (H : Hi) (u : Int) (i : Nat) : Int := max (u * H.unit) (H.op i).f
def pB (H : Hi) (u : Int) (i : Nat) : Int := min ((u + 1) * H.unit) ((H.op i).f + (H.op i).n)
def isP (H : Hi) (u : Int) (i : Nat) : Bool := !decide ((H.op i).k = 2) && decide (pA H u i < pB H u i)
def ptOf (H : Hi) (u : Int) (l : List Nat) (i : Nat) : PT :=
  ⟨decide ((H.op i).k = 1), decide (0 ≤ (H.op i).e), decide ((H.op i).k = 1) && decide (0 ≤ (H.op i).e) && ((H.op i).fo || anyFl H (H.op i).e l), (H.op i).b, (H.op i).e, pA H u i - u * H.unit, (pB H u i - pA H u i).toNat, fun q => (H.op i).v ((pA H u i - (H.op i).f).toNat + q)⟩
/-- The parts of a unit among operations. -/
def PL (H : Hi) (u : Int) (l : List Nat) : List Nat := l.filter (isP H u)
def pts (H : Hi) (u : Int) (l l' : List Nat) : Nat → PT := fun q => ptOf H u l (l'.getD q 0)
theorem prow_closed (P : Nat → PT) (V : Nat → Value) (i k : Nat) : (prow P V i k).closed = true := by unfold prow; split <;> rfl
theorem app_prow (H : Hi) (u : Int) (l L : List Nat) (i : Nat) (PV : Nat → Value) (pv : Value) (T : PT) (hT : T = ptOf H u l i) (w d dv : SV) (hw : Less (.sb T.w) w) (hd : Less (.sb T.d) d) (hdv : Less (.sb T.du) dv) (j k : Nat) (hj : j < L.length + 1) (hk : k < 7) : Less (prow (pts H u l (L ++ [i])) (fun q => if q = L.length then pv else PV q) j k) (appF (prow (pts H u l L) PV) L.length (fun j k => [w, d, dv, SV.int IntKind.i64 T.b, SV.int IntKind.i64 T.e, SV.int IntKind.i64 T.f, SV.val pv][j * 7 + k]?.getD SV.und) j k) := by
  unfold appF
  by_cases h : j < L.length
  · have hb : Nat.blt j L.length = true := by simpa [Nat.blt_eq] using h
    have hne : j ≠ L.length := by omega
    have e : pts H u l (L ++ [i]) j = pts H u l L j := by unfold pts; rw [List.getD_eq_getElem?_getD, List.getElem?_append_left h, ← List.getD_eq_getElem?_getD]
    rw [hb, cond_true]
    refine Less.of ?_
    unfold prow
    dsimp only
    rw [e, if_neg hne]
  · have : j = L.length := by omega
    subst this
    have hb : Nat.blt L.length L.length = false := by
      cases hq : Nat.blt L.length L.length with
      | false => rfl
      | true => rw [Nat.blt_eq] at hq; omega
    have e : pts H u l (L ++ [i]) L.length = T := by rw [hT]; unfold pts; simp
    rw [hb, cond_false, Nat.sub_self]
    unfold prow
    dsimp only
    rw [e, if_pos rfl]
    match k, hk with
    | 0, _ => exact hw
    | 1, _ => exact hd
    | 2, _ => exact hdv
    | 3, _ => exact .rfl
    | 4, _ => exact .rfl
    | 5, _ => exact .rfl
    | 6, _ => exact .rfl
set_option maxHeartbeats 8000000 in
theorem parts_hcx {K : Kn} {H : Hi} {vo vc : Value} {V : Nat → Value} (h : HOK K H vo vc V) (hv : VHi H) (u : Int) (hu : 0 ≤ u) (hu2 : (u + 1) * H.unit ≤ H.blocks) (l : List Nat) (hl : l.length ≤ 100) (hlm : ∀ k ∈ l, k < H.m) (w : Value) (hw : Froz K w l.length 1 (urow (lrow l))) :
    HCX Try.prog K M0 39 [hA H vo vc, i64 u, .val w] [] [] 0 (fun (y : Value × (Nat → Value)) K' => Froz K' y.1 (PL H u l).length 7 (prow (pts H u l (PL H u l)) y.2) ∧ ∀ q, q < (PL H u l).length → Froz K' (y.2 q) (pts H u l (PL H u l) q).n 1 (urow (pts H u l (PL H u l) q).v)) (fun y => ⟨.val y.1, [], 0⟩) := by
  have hb2 := hv.b2
  have hu1 := hv.u1
  have hu8 := hv.u8
  have hlo : 0 ≤ u * H.unit := Int.mul_nonneg hu (by omega)
  have hhi : (u + 1) * H.unit = u * H.unit + H.unit := by rw [Int.add_mul, Int.one_mul]
  have huu : u ≤ u * H.unit := by
    have := Int.mul_le_mul_of_nonneg_left hu1 hu
    omega
  refine hcx_of_run Try.func39 rfl (fun B hB hK hpin => ?_)
  have hF0 : Fz B K M0 B K := .refl hB hK
  refine goT hB [] 400 rfl (by simp [conj, Fits_i64]; omega) ?_
  refine run_open hK 24 hw (by decide) rfl (fun ol => ?_)
  refine goT hB [] 400 rfl (by first | exact conj_nil | simp [conj]) ?_
  refine run_loop ?_
  refine run_inv (ι := Nat × (Nat → Value)) hpin (fun x => x.1 ≤ l.length ∧ ∀ q, q < (PL H u (l.take x.1)).length → Froz K (x.2 q) (pts H u l (PL H u (l.take x.1)) q).n 1 (urow (pts H u l (PL H u (l.take x.1)) q).v)) (fun x => l.length - x.1)
    (fun x => [(26, i64 x.1), (6, .sq 1 0 0 7 (PL H u (l.take x.1)).length .own), (25, i64 l.length), (24, .sq 12 ol 0 1 l.length .no), (8, i64 ((u + 1) * H.unit)), (7, i64 (u * H.unit)), (3, .ptr 0 0), (2, .val w)]) (fun _ => [])
    (fun x => [(0, hC H vo vc), (1, .row 0 (PL H u (l.take x.1)).length (PL H u (l.take x.1)).length 7 (prow (pts H u l (PL H u (l.take x.1))) x.2) 90)]) 13 (0, fun _ => vo) ⟨Nat.zero_le _, fun q hq => absurd hq (Nat.not_lt_zero _)⟩ [0, 1, 2, 3, 4, 5, 6, 7, 8, 9, 10, 11, 12] rfl rfl (by simp [conj, less_rfl, ren_urow, renR_urow, PL]) ?_
  rintro ⟨j, PV⟩ ⟨hj, hPV⟩ ih
  dsimp only at hj hPV ih ⊢
  refine goT hB [(39, 27)] 400 rfl (by clear ih; first | exact conj_nil | simp [conj]) ?_
  by_cases hjl : j < l.length
  · have e0 : 0 + ((j : Nat) : Int).toNat = j := by omega
    refine run_tt (by simpa using hjl) ?_
    refine goT hB [] 400 rfl (by clear ih; simp [conj, hjl]) ?_
    rw [e0, lrow_at hjl]
    have him : l[j] < H.m := hlm _ (List.getElem_mem hjl)
    have htk : l.take (j + 1) = l.take j ++ [l[j]] := List.take_succ_eq_append_getElem hjl
    generalize l[j] = i at him htk
    refine run_open hK 31 h.o (by decide) rfl (fun oo => ?_)
    refine goT hB [] 9 rfl (by clear ih; simp [conj, him]) ?_
    have e1 : 0 + ((i : Nat) : Int).toNat = i := by omega
    rw [e1]
    obtain ⟨⟨k1, k2, k3, k4⟩, k5, k6, k7, k8, k9, k10⟩ := hv.ops i him
    have hni := h.n i
    have hpA : pA H u i = max (u * H.unit) (H.op i).f := rfl
    have hpB : pB H u i = min ((u + 1) * H.unit) ((H.op i).f + (H.op i).n) := rfl
    have hisP : isP H u i = (!decide ((H.op i).k = 2) && decide (pA H u i < pB H u i)) := rfl
    refine run_close (.inl rfl) ?_
    refine run_openBN hK 14 2 (h.v i him) (by decide) rfl rfl (fun _ => rfl) (fun _ => rfl) hpin (Nat.zero_le _) (fun ov B' hM' hD' hpin' hkn' => ?_)
    have hB' : B'.ok := by intro x o hx; rw [hM'.w]; rw [hD'] at hx; exact hB x o hx
    refine goT hB' [(39, 49)] 400 rfl (by clear ih; simp [conj, Fits_i64]; omega) ?_
    by_cases q1 : (H.op i).k = 2
    · refine run_tt (by simpa using q1) ?_
      have hno : isP H u i = false := by rw [hisP]; simp [q1]
      have hPL : PL H u (l.take (j + 1)) = PL H u (l.take j) := by unfold PL; rw [htk, List.filter_append]; simp [hno]
      have ih := ih (j + 1, PV) ⟨by show j + 1 ≤ _; omega, by show ∀ q, q < (PL H u (l.take (j + 1))).length → _; rw [hPL]; exact hPV⟩ (by show l.length - (j + 1) < l.length - j; omega)
      dsimp only at ih
      rw [hPL] at ih
      refine goT hB' [] 400 rfl (by clear ih; simp [conj, Fits_i64]; omega) ?_
      refine run_back ?_
      refine run_close (.inl rfl) ?_
      refine run_unpin hM' ?_
      refine run_to hpin [0, 1, 2, 3, 4, 5, 6, 7, 8, 9, 10, 11, 12] rfl rfl ?_ ih
      clear ih
      simp [conj, less_rfl, ren_prow, renR_prow, ren_urow, renR_urow]
    refine run_ff (by simpa using q1) ?_
    refine goT hB' [(39, 53)] 400 rfl (by clear ih; first | exact conj_nil | simp [conj]) ?_
    by_cases q2 : pB H u i ≤ pA H u i
    · refine run_tt (by rw [hpA, hpB] at q2; simpa using q2) ?_
      have hno : isP H u i = false := by rw [hisP]; simp; omega
      have hPL : PL H u (l.take (j + 1)) = PL H u (l.take j) := by unfold PL; rw [htk, List.filter_append]; simp [hno]
      have ih := ih (j + 1, PV) ⟨by show j + 1 ≤ _; omega, by show ∀ q, q < (PL H u (l.take (j + 1))).length → _; rw [hPL]; exact hPV⟩ (by show l.length - (j + 1) < l.length - j; omega)
      dsimp only at ih
      rw [hPL] at ih
      refine goT hB' [] 400 rfl (by clear ih; simp [conj, Fits_i64]; omega) ?_
      refine run_back ?_
      refine run_close (.inl rfl) ?_
      refine run_unpin hM' ?_
      refine run_to hpin [0, 1, 2, 3, 4, 5, 6, 7, 8, 9, 10, 11, 12] rfl rfl ?_ ih
      clear ih
      simp [conj, less_rfl, ren_prow, renR_prow, ren_urow, renR_urow]
    refine run_ff (by rw [hpA, hpB] at q2; simpa using q2) ?_
    refine goT hB' [(39, 81)] 400 rfl (by clear ih; simp [conj, Fits_i64]; omega) ?_
    have hyes : isP H u i = true := by rw [hisP]; simp [q1]; omega
    have hPL : PL H u (l.take (j + 1)) = PL H u (l.take j) ++ [i] := by unfold PL; rw [htk, List.filter_append]; simp [hyes]
    obtain ⟨b, c, tt, fz, p1, p2, p3⟩ := hkn' (by omega)
    refine run_shutP p1 p2 p3 (by simp; omega) 55 6 rfl rfl (fun _ => rfl) (fun pv hpv => ?_)
    refine run_close (.inl rfl) ?_
    refine run_unpin hM' ?_
    obtain ⟨T, hTe⟩ : ∃ T, T = ptOf H u l i := ⟨_, rfl⟩
    have hT : T = ⟨decide ((H.op i).k = 1), decide (0 ≤ (H.op i).e), decide ((H.op i).k = 1) && decide (0 ≤ (H.op i).e) && ((H.op i).fo || anyFl H (H.op i).e l), (H.op i).b, (H.op i).e, pA H u i - u * H.unit, (pB H u i - pA H u i).toNat, fun q => (H.op i).v ((pA H u i - (H.op i).f).toNat + q)⟩ := hTe
    have hpv2 : Froz K pv (ptOf H u l i).n 1 (urow (ptOf H u l i).v) := by
      rw [← hTe, hT]
      have en : (min ((u + 1) * H.unit) ((H.op i).f + (H.op i).n) - (H.op i).f).toNat - (max (u * H.unit) (H.op i).f - (H.op i).f).toNat = (pB H u i - pA H u i).toNat := by omega
      show Froz K pv (pB H u i - pA H u i).toNat 1 _
      rw [← en]
      exact hpv.congr fun a c _ _ => by rw [Nat.zero_add]; rfl
    refine run_to hpin [0, 1, 2, 3, 4, 5, 6, 7, 8, 9, 10, 11, 12, 14, 55] (nx' := 15) (rest' := []) (sl' := [(81, .sb T.w), (14, .ptr 14 0), (11, .ptr 13 0), (26, i64 j), (6, .sq 1 0 0 7 (PL H u (l.take j)).length .own), (25, i64 l.length), (24, .sq 12 ol 0 1 l.length .no), (8, i64 ((u + 1) * H.unit)), (7, i64 (u * H.unit)), (3, .ptr 0 0), (2, .val w)]) (hp' := [(14, .cells [.sb T.w, .sb T.d, .ff, i64 T.b, i64 T.e, i64 T.f, .val pv] 90), (13, .cells [.und, .und, .und, .und, i64 (H.op i).e, .sb (H.op i).fo] 39), (0, hC H vo vc), (1, .row 0 (PL H u (l.take j)).length (PL H u (l.take j)).length 7 (prow (pts H u l (PL H u (l.take j))) PV) 90)]) rfl rfl ?_ ?_
    · clear ih
      rw [hT]
      simp [conj, less_rfl, ren_prow, renR_prow, ren_urow, renR_urow, hpA]
    have hPLl : (PL H u (l.take j)).length ≤ j := by
      refine Nat.le_trans (List.length_filter_le _ _) ?_
      rw [List.length_take]; omega
    have ih := ih (j + 1, fun q => if q = (PL H u (l.take j)).length then pv else PV q) ⟨by show j + 1 ≤ _; omega, by
      show ∀ q, q < (PL H u (l.take (j + 1))).length → _
      rw [hPL]
      intro q hq
      rw [List.length_append] at hq
      by_cases hqe : q = (PL H u (l.take j)).length
      · dsimp only
        rw [if_pos hqe, hqe]
        have e : pts H u l (PL H u (l.take j) ++ [i]) (PL H u (l.take j)).length = ptOf H u l i := by unfold pts; simp
        rw [e]; exact hpv2
      · dsimp only
        rw [if_neg hqe]
        have hlt : q < (PL H u (l.take j)).length := by simp at hq; omega
        have e : pts H u l (PL H u (l.take j) ++ [i]) q = pts H u l (PL H u (l.take j)) q := by unfold pts; rw [List.getD_eq_getElem?_getD, List.getElem?_append_left hlt, ← List.getD_eq_getElem?_getD]
        rw [e]; exact hPV q hlt⟩ (by show l.length - (j + 1) < l.length - j; omega)
    dsimp only at ih
    rw [hPL, List.length_append, List.length_singleton] at ih
    have happ := app_prow H u l (PL H u (l.take j)) i PV pv T hTe
    cases hw1 : T.w with
    | true =>
      refine run_tt rfl ?_
      refine goT hB [(39, 84)] 400 rfl (by clear ih; simp [conj, Fits_i64]) ?_
      cases hd1 : T.d with
      | false =>
        refine run_ff rfl ?_
        refine goT hB [] 400 rfl (by clear ih; simp [conj, Fits_i64]; omega) ?_
        have hdu : T.du = false := by rw [hT] at hd1 ⊢; dsimp only at hd1 ⊢; rw [hd1, Bool.and_false, Bool.false_and]
        refine run_back ?_
        refine run_to hpin [0, 16, 2, 3, 4, 5, 6, 7, 8, 9, 10, 11, 12] rfl rfl ?_ ih
        clear ih
        rw [hw1, hd1, hdu] at happ
        simp [conj, less_rfl, ren_prow, renR_prow, ren_urow, renR_urow]
        exact fun a c ha hc => happ (.sb true) (.sb false) .ff (fun _ _ h => h) (fun _ _ h => h) (fun _ _ h => h) a c ha hc
      | true =>
        refine run_tt rfl ?_
        refine goT hB [(39, 88)] 400 rfl (by clear ih; simp [conj, Fits_i64]) ?_
        cases hf1 : (H.op i).fo with
        | true =>
          refine run_tt rfl ?_
          refine goT hB [] 400 rfl (by clear ih; simp [conj, Fits_i64]; omega) ?_
          have hdu : T.du = true := by
            rw [hT] at hd1 hw1 ⊢; dsimp only at hd1 hw1 ⊢; rw [hd1, hw1, hf1]; rfl
          refine run_back ?_
          refine run_to hpin [0, 16, 2, 3, 4, 5, 6, 7, 8, 9, 10, 11, 12] rfl rfl ?_ ih
          clear ih
          rw [hw1, hd1, hdu] at happ
          simp [conj, less_rfl, ren_prow, renR_prow, ren_urow, renR_urow]
          exact fun a c ha hc => happ (.sb true) (.sb true) .tt (fun _ _ h => h) (fun _ _ h => h) (fun _ _ h => h) a c ha hc
        | false =>
          refine run_ff rfl ?_
          refine goT hB [] 400 rfl (by clear ih; simp [conj, Fits_i64]) ?_
          refine run_callCK (someFl_hck h (H.op i).e l hl hlm w hw) named hB hK [0, 13] rfl rfl rfl rfl (by first | exact conj_nil | simp [conj]) (by clear ih; simp [conj, less_rfl]) ?_
          rintro ⟨⟩ _
          refine ⟨show 2 ≤ 2 by omega, _, _, _, rfl, rfl, rfl, ?_⟩
          refine goT hB [(39,93)] 400 rfl (by clear ih; first | exact conj_nil | simp [conj, Fits_i64]) ?_
          have hdu : T.du = anyFl H (H.op i).e l := by
            rw [hT] at hd1 hw1 ⊢; dsimp only at hd1 hw1 ⊢; rw [hd1, hw1, hf1]; simp
          cases ha1 : anyFl H (H.op i).e l with
          | true =>
            refine run_tt rfl ?_
            refine goT hB [] 400 rfl (by clear ih; simp [conj, Fits_i64]; omega) ?_
            rw [ha1] at hdu
            refine run_back ?_
            refine run_to hpin [0, 16, 2, 3, 4, 5, 6, 7, 8, 9, 10, 11, 12] rfl rfl ?_ ih
            clear ih
            rw [hw1, hd1, hdu] at happ
            simp [conj, less_rfl, ren_prow, renR_prow, ren_urow, renR_urow]
            exact fun a c ha hc => happ (.sb true) (.sb true) .tt (fun _ _ h => h) (fun _ _ h => h) (fun _ _ h => h) a c ha hc
          | false =>
            refine run_ff rfl ?_
            refine goT hB [] 400 rfl (by clear ih; simp [conj, Fits_i64]; omega) ?_
            rw [ha1] at hdu
            refine run_back ?_
            refine run_to hpin [0, 16, 2, 3, 4, 5, 6, 7, 8, 9, 10, 11, 12] rfl rfl ?_ ih
            clear ih
            rw [hw1, hd1, hdu] at happ
            simp [conj, less_rfl, ren_prow, renR_prow, ren_urow, renR_urow]
            exact fun a c ha hc => happ (.sb true) (.sb true) .ff (fun _ _ h => h) (fun _ _ h => h) (fun _ _ h => h) a c ha hc
    | false =>
      refine run_ff rfl ?_
      refine goT hB [] 400 rfl (by clear ih; simp [conj, Fits_i64]; omega) ?_
      have hdu : T.du = false := by rw [hT] at hw1 ⊢; dsimp only at hw1 ⊢; rw [hw1]; rfl
      refine run_back ?_
      refine run_to hpin [0, 16, 2, 3, 4, 5, 6, 7, 8, 9, 10, 11, 12] rfl rfl ?_ ih
      clear ih
      rw [hw1, hdu] at happ
      simp [conj, less_rfl, ren_prow, renR_prow, ren_urow, renR_urow]
      exact fun a c ha hc => happ (.sb false) (.sb T.d) .ff (fun _ _ h => h) (fun _ _ h => h) (fun _ _ h => h) a c ha hc
  · clear ih
    have hjl' : j = l.length := by omega
    subst hjl'
    refine run_ff (by simp) ?_
    refine goT hB [] 400 rfl (by first | exact conj_nil | simp [conj]) ?_
    refine run_close (.inl rfl) ?_
    rw [List.take_length]
    rw [List.take_length] at hPV
    refine run_freeze hB hK 6 rfl rfl (Nat.le_refl _) (fun a c _ _ => prow_closed _ _ a c) rfl (fun v5 B5 K5 hv5 hF5 hp5 => ?_)
    refine run_retF hF5 (hpin.fz hF5 hp5) (v5, PV) ⟨hv5, fun q hq => (hPV q hq).fz hF5⟩ [] rfl rfl (by first | exact conj_nil | simp [conj]) rfl ?_
    simp [conj, less_rfl]
end Sx
end
section
/- Package judge: vectors and states as keys of maps. No condition. -/
namespace Sx
open Go Go.Proofs
set_option maxRecDepth 100000
set_option pp.deepTerms true
set_option pp.maxSteps 10000000
def okV (l : List Int) : Prop := l.length = 8 ∧ ∀ x ∈ l, Fits .i64 x
def encV (l : List Int) : Value := .agg (l.map (Value.int .i64)).toArray
def svV (l : List Int) : SV := .agg (l.map (SV.int .i64))
abbrev St := Nat × List Int
def okS (s : St) : Prop := s.1 < 65536 ∧ okV s.2
def encS (s : St) : Value := .agg (Value.int .u16 s.1 :: s.2.map (Value.int .i64)).toArray
def svS (s : St) : SV := .agg (SV.int .u16 s.1 :: s.2.map (SV.int .i64))
theorem relL_ints (β : Env) : ∀ l : List Int, RelL β (l.map (SV.int .i64)) (l.map (Value.int .i64))
  | [] => rfl
  | _ :: l => ⟨_, _, rfl, rfl, relL_ints β l⟩
theorem detL_ints (β : Env) : ∀ (l : List Int) (us : List Value), RelL β (l.map (SV.int .i64)) us → us = l.map (Value.int .i64)
  | [], _, h => h
  | _ :: l, _, ⟨_, _, e, h1, h2⟩ => by rw [e, h1, detL_ints β l _ h2]; rfl
theorem ints_inj : ∀ l m : List Int, l.map (Value.int .i64) = m.map (Value.int .i64) → l = m
  | [], [], _ => rfl
  | [], _ :: _, h => by cases h
  | _ :: _, [], h => by cases h
  | a :: l, b :: m, h => by
    simp only [List.map_cons, List.cons.injEq] at h
    obtain ⟨h1, h2⟩ := h
    injection h1 with _ h1
    rw [h1, ints_inj l m h2]
theorem u57 : Try.prog.underlying 57 = some (.array 8 3) := by kernel_rfl
theorem u3 : Try.prog.underlying 3 = some (.int .i64) := by kernel_rfl
theorem u93 : Try.prog.underlying 93 = some (.int .u16) := by kernel_rfl
theorem c57 : Try.prog.cellsOf 57 = 8 := by kernel_rfl
theorem c3 : Try.prog.cellsOf 3 = 1 := by kernel_rfl
theorem sz_ : ∃ m, Try.prog.types.size = m + 3 := ⟨Try.prog.types.size - 3, by kernel_rfl⟩
theorem law57 : WideMaps.KeyLaw Try.prog 57 := deep_law (m := 2) (by decide) (by kernel_rfl) (by kernel_rfl) (by kernel_rfl)
theorem law98 : WideMaps.KeyLaw Try.prog 98 := deep_law (m := 3) (by decide) (by kernel_rfl) (by kernel_rfl) (by kernel_rfl)
theorem wf64 {x : Int} (h : Fits .i64 x) : (Lit.int .i64 x).wf = true := by
  unfold Lit.wf; rw [Bool.and_eq_true, decide_eq_true_iff, decide_eq_true_iff]; exact h
theorem key57 (l : List Int) (h : okV l) : ∃ k, Go.keyOf Try.prog 57 (encV l) = some k := by
  obtain ⟨h8, hf⟩ := h
  match l, h8 with
  | [a0, a1, a2, a3, a4, a5, a6, a7], _ =>
    obtain ⟨m, hm⟩ := sz_
    have hkt : Try.prog.keyType 57 = true := by kernel_rfl
    simp only [List.mem_cons, List.not_mem_nil, or_false, forall_eq_or_imp, forall_eq] at hf
    obtain ⟨f0, f1, f2, f3, f4, f5, f6, f7⟩ := hf
    refine ⟨.string (keyBytes [.int .i64 a0, .int .i64 a1, .int .i64 a2, .int .i64 a3, .int .i64 a4, .int .i64 a5, .int .i64 a6, .int .i64 a7]), ?_⟩
    unfold Go.keyOf
    simp only [u57]
    rw [if_pos (by simp [hkt, Value.formed, u57, c57, encV]), hm]
    unfold Program.keyLits
    simp only [u57, Value.cells, encV]
    rw [if_pos (by rw [c57]; rfl), show List.range 8 = [0, 1, 2, 3, 4, 5, 6, 7] from rfl]
    simp only [List.mapM_cons, List.mapM_nil]
    simp [c3, Program.keyLits, u3, wf64, f0, f1, f2, f3, f4, f5, f6, f7]
theorem encV_ok : Enc Try.prog 57 okV encV svV where
  law := law57
  key := key57
  inj := fun a b h => by
    unfold encV at h
    injection h with h
    exact ints_inj a b (Array.toList_inj.2 h)
  rel := fun β a => ⟨_, rfl, relL_ints β a⟩
  det := fun β a u ⟨us, e, h⟩ => by rw [e, detL_ints β a us h]; rfl
theorem keyLits57 (m : Nat) (l : List Int) (h : okV l) : Try.prog.keyLits (m + 2) 57 (l.map (Value.int .i64)) = some (l.map (Lit.int .i64)) := by
  obtain ⟨h8, hf⟩ := h
  match l, h8 with
  | [a0, a1, a2, a3, a4, a5, a6, a7], _ =>
    simp only [List.mem_cons, List.not_mem_nil, or_false, forall_eq_or_imp, forall_eq] at hf
    obtain ⟨f0, f1, f2, f3, f4, f5, f6, f7⟩ := hf
    unfold Program.keyLits
    simp only [u57, List.map_cons, List.map_nil]
    rw [if_pos (by rw [c57]; rfl), show List.range 8 = [0, 1, 2, 3, 4, 5, 6, 7] from rfl]
    simp only [List.mapM_cons, List.mapM_nil]
    simp [c3, Program.keyLits, u3, wf64, f0, f1, f2, f3, f4, f5, f6, f7]
theorem u98 : ∃ fs : Array Field, Try.prog.underlying 98 = some (.struct fs) ∧ fs.toList.map (fun f => (f.type, f.offset)) = [(93, 0), (57, 1)] ∧ fs.all (·.name != "_") = true := by
  have h : (match Try.prog.underlying 98 with | some (.struct fs) => decide (fs.toList.map (fun f => (f.type, f.offset)) = [(93, 0), (57, 1)]) && fs.all (·.name != "_") | _ => false) = true := by kernel_rfl
  split at h
  · rename_i fs hu
    rw [Bool.and_eq_true, decide_eq_true_iff] at h
    exact ⟨fs, hu, h.1, h.2⟩
  · cases h
theorem c98 : Try.prog.cellsOf 98 = 9 := by kernel_rfl
theorem c93 : Try.prog.cellsOf 93 = 1 := by kernel_rfl
theorem wf16 {n : Nat} (h : n < 65536) : (Lit.int .u16 (n : Int)).wf = true := by
  unfold Lit.wf; rw [Bool.and_eq_true, decide_eq_true_iff, decide_eq_true_iff]
  simp [IntKind.min, IntKind.max, IntKind.signed, IntKind.bits]; omega
theorem key98 (s : St) (h : okS s) : ∃ k, Go.keyOf Try.prog 98 (encS s) = some k := by
  obtain ⟨m, hm⟩ := sz_
  have hkt : Try.prog.keyType 98 = true := by kernel_rfl
  obtain ⟨fs, hu, hfs, hall⟩ := u98
  obtain ⟨n, l⟩ := s
  obtain ⟨hn, hl⟩ := h
  have h8 : l.length = 8 := hl.1
  refine ⟨.string (keyBytes (.int .u16 n :: l.map (Lit.int .i64))), ?_⟩
  unfold Go.keyOf
  simp only [hu]
  rw [if_pos (by simp [hkt, Value.formed, hu, c98, encS, h8]), hm]
  have hk : Try.prog.keyLits (m + 4) 98 (encS (n, l)).cells.toList = some (.int .u16 n :: l.map (Lit.int .i64)) := by
    unfold Program.keyLits
    simp only [hu, Value.cells, encS]
    rw [if_pos ⟨by rw [c98]; simp [h8], hall⟩]
    match fs, hfs with
    | ⟨[f, g]⟩, e =>
      simp only [List.map_cons, List.map_nil, List.cons.injEq, Prod.mk.injEq, and_true] at e
      obtain ⟨⟨e1, e2⟩, e3, e4⟩ := e
      simp only [List.mapM_cons, List.mapM_nil, e1, e2, e3, e4, c57, c93]
      have q : Try.prog.keyLits (m + 3) 57 (List.take 8 (List.drop 1 (Value.int .u16 (n : Int) :: l.map (Value.int .i64)))) = some (l.map (Lit.int .i64)) := by
        rw [List.drop_succ_cons, List.drop_zero, List.take_of_length_le (by simp [h8])]
        exact keyLits57 (m + 1) l hl
      have q2 : Try.prog.keyLits (m + 3) 93 (List.take 1 (List.drop 0 (Value.int .u16 (n : Int) :: l.map (Value.int .i64)))) = some [.int .u16 n] := by
        simp [Program.keyLits, u93, wf16 hn]
      rw [q, q2]
      simp
  rw [hk]; rfl
theorem encS_ok : Enc Try.prog 98 okS encS svS where
  law := law98
  key := key98
  inj := fun a b h => by
    unfold encS at h
    injection h with h
    have := Array.toList_inj.2 h
    simp only [List.cons.injEq] at this
    obtain ⟨h1, h2⟩ := this
    injection h1 with _ h1
    exact Prod.ext (by omega) (ints_inj _ _ h2)
  rel := fun β a => ⟨_, rfl, _, _, rfl, rfl, relL_ints β a.2⟩
  det := fun β a u ⟨us, e, v, vs, e2, h1, h2⟩ => by rw [e, e2, detL_ints β a.2 vs h2, h1]; rfl
end Sx
end
section
/- Package judge: a part's step. Conditions: as each theorem says. -/
namespace Sx
open Go Go.Proofs
set_option maxRecDepth 100000
set_option pp.deepTerms true
set_option pp.maxSteps 10000000
/-- What a part's blocks are after it. -/
def apF (T : PT) (v : Nat → Int) (i : Nat) : Nat → Int := fun k => if T.f.toNat ≤ k ∧ k < T.f.toNat + i then T.v (k - T.f.toNat) else v k
def apL (T : PT) (l : List Int) : List Int := (List.range 8).map (apF T (fun k => l.getD k 0) T.n)
/-- Whether it may stand: a read has these values. -/
def okA (T : PT) (l : List Int) : Bool := T.w || (List.range T.n).all fun i => decide (l.getD (T.f.toNat + i) 0 = T.v i)
theorem apF_succ (T : PT) (v : Nat → Int) (i : Nat) : apF T v (i + 1) = fun k => if k = T.f.toNat + i then T.v i else apF T v i k := by
  funext k
  unfold apF
  by_cases h : k = T.f.toNat + i
  · rw [if_pos h, if_pos ⟨by omega, by omega⟩, h, Nat.add_sub_cancel_left]
  · rw [if_neg h]
    by_cases h2 : T.f.toNat ≤ k ∧ k < T.f.toNat + i
    · rw [if_pos h2, if_pos ⟨h2.1, by omega⟩]
    · rw [if_neg h2, if_neg (fun q => h2 ⟨q.1, by omega⟩)]
theorem apF_zero (T : PT) (v : Nat → Int) : apF T v 0 = v := by
  funext k; unfold apF; rw [if_neg (by omega)]
theorem upd_less1 (g : Nat → Int) (j j' : Nat) (x : Int) (a : Nat) (hj : j' = j) : Less (urow (fun k => if k = j then x else g k) a 0) (updF (urow g) j' 0 (SV.int .i64 x).cells a 0) := by
  subst hj
  refine Less.of ?_
  unfold updF urow
  by_cases e : a = j'
  · subst e; simp [SV.cells]
  · simp [e]
set_option maxHeartbeats 4000000 in
theorem apply_hck {K : Kn} (T : PT) (pv : Value) (hpv : Froz K pv T.n 1 (urow T.v)) (h0 : 0 ≤ T.f) (h8 : T.f + T.n ≤ 8) (l : List Int) (hl : l.length = 8) :
    HCK Try.prog K 49 [.agg [.sb T.w, .sb T.d, .sb T.du, i64 T.b, i64 T.e, i64 T.f, .val pv], svV l] [] [] 0 (fun z : List Int × Bool => z.2 = okA T l ∧ z.1.length = 8 ∧ (okA T l = true → z.1 = apL T l)) (fun z => ⟨.tup [svV z.1, .sb z.2], [], 0⟩) := by
  match l, hl with
  | [a0, a1, a2, a3, a4, a5, a6, a7], _ =>
  refine hck_of_run Try.func49 rfl (fun B hB hK hpin => ?_)
  refine goT hB [] 400 rfl (by first | exact conj_nil | simp [conj]) ?_
  refine run_open hK 9 hpv (by decide) rfl (fun ov => ?_)
  refine goT hB [] 400 rfl (by first | exact conj_nil | simp [conj]) ?_
  refine run_loop ?_
  refine run_inv (ι := Nat) hpin (fun i => i ≤ T.n ∧ (T.w = false → ∀ q, q < i → [a0, a1, a2, a3, a4, a5, a6, a7].getD (T.f.toNat + q) 0 = T.v q)) (fun i => T.n - i)
    (fun i => [(11, i64 i), (10, i64 T.n), (9, .sq 3 ov 0 1 T.n .no), (4, .ptr 2 0), (3, .ptr 1 0), (2, .ptr 0 0)]) (fun _ => [])
    (fun i => [(0, .cells [.sb T.w, .sb T.d, .sb T.du, i64 T.b, i64 T.e, i64 T.f, .val pv] 90), (1, .arr [] 8 1 (urow (apF T (fun k => [a0, a1, a2, a3, a4, a5, a6, a7].getD k 0) i)) [] 57), (2, .cells [i64 0, i64 0, i64 0, i64 0, i64 0, i64 0, i64 0, i64 0] 57)]) 4 0 ⟨Nat.zero_le _, fun _ q hq => absurd hq (Nat.not_lt_zero _)⟩ [0, 1, 2, 3] rfl rfl (by
      simp [conj, less_rfl, ren_urow, renR_urow, apF_zero]
      intro i hi
      match i, hi with
      | 0, _ | 1, _ | 2, _ | 3, _ | 4, _ | 5, _ | 6, _ | 7, _ => exact ⟨_, rfl, .rfl⟩) ?_
  rintro i ⟨hi, hrd⟩ ih
  refine goT hB [(49, 12)] 400 rfl (by clear ih; first | exact conj_nil | simp [conj]) ?_
  by_cases hin : i < T.n
  · refine run_tt (by simpa using hin) ?_
    refine goT hB [(49, 17)] 400 rfl (by clear ih; simp [conj, hin]) ?_
    have e0 : 0 + ((i : Nat) : Int).toNat = i := by omega
    rw [e0]
    have hap : apF T (fun k => [a0, a1, a2, a3, a4, a5, a6, a7].getD k 0) i (T.f + i).toNat = [a0, a1, a2, a3, a4, a5, a6, a7].getD (T.f.toNat + i) 0 := by
      unfold apF; rw [if_neg (by omega), show (T.f + i).toNat = T.f.toNat + i by omega]
    have hsucc := apF_succ T (fun k => [a0, a1, a2, a3, a4, a5, a6, a7].getD k 0) i
    cases hw : T.w with
    | true =>
      refine run_tt rfl ?_
      refine goT hB [] 400 rfl (by clear ih; simp [conj, Fits_i64]; omega) ?_
      have ih := ih (i + 1) ⟨by omega, fun q => by rw [hw] at q; cases q⟩ (by omega)
      rw [hsucc, hw] at ih
      refine run_back ?_
      refine run_to hpin [0, 1, 2, 3] rfl rfl ?_ ih
      clear ih
      simp [conj, less_rfl, ren_urow, renR_urow]
      exact fun a _ => upd_less1 _ _ _ _ a (by omega)
    | false =>
      refine run_ff rfl ?_
      refine goT hB [(49, 27)] 400 rfl (by clear ih; simp [conj, Fits_i64]; omega) ?_
      rw [hap]
      by_cases hq : [a0, a1, a2, a3, a4, a5, a6, a7].getD (T.f.toNat + i) 0 = T.v i
      · refine run_ff (by simp only [hq]; simp) ?_
        refine goT hB [] 400 rfl (by clear ih; simp [conj, Fits_i64]; omega) ?_
        have ih := ih (i + 1) ⟨by omega, fun _ q hq2 => by
          by_cases q1 : q = i
          · rw [q1]; exact hq
          · exact hrd hw q (by omega)⟩ (by omega)
        rw [hsucc, hw] at ih
        refine run_back ?_
        refine run_to hpin [0, 1, 2, 3] rfl rfl ?_ ih
        clear ih
        simp [conj, less_rfl, ren_urow, renR_urow]
        exact fun a _ => upd_less1 _ _ _ _ a (by omega)
      · clear ih
        have hno : okA T [a0, a1, a2, a3, a4, a5, a6, a7] = false := by
          unfold okA
          rw [hw, Bool.false_or, List.all_eq_false]
          exact ⟨i, List.mem_range.2 hin, by rw [decide_eq_true_iff]; exact hq⟩
        refine run_tt (by simp only [hq]; simp) ?_
        refine goT hB [] 400 rfl (by first | exact conj_nil | simp [conj]) ?_
        refine run_flat 1 rfl rfl rfl ?_
        refine goT hB [] 400 rfl (by first | exact conj_nil | simp [conj]) ?_
        refine run_close (.inl rfl) ?_
        refine run_retC hpin ((List.range 8).map (apF T (fun k => [a0, a1, a2, a3, a4, a5, a6, a7].getD k 0) i), false) ⟨hno.symm, rfl, fun q => by rw [hno] at q; cases q⟩ [] rfl rfl (by first | exact conj_nil | simp [conj]) rfl ?_
        simp [conj, less_rfl]
  · clear ih
    have hie : i = T.n := by omega
    subst hie
    have hyes : okA T [a0, a1, a2, a3, a4, a5, a6, a7] = true := by
      unfold okA
      cases hw : T.w with
      | true => rfl
      | false =>
        rw [Bool.false_or, List.all_eq_true]
        exact fun q hq => by rw [decide_eq_true_iff]; exact hrd hw q (List.mem_range.1 hq)
    refine run_ff (by simp) ?_
    refine goT hB [] 400 rfl (by first | exact conj_nil | simp [conj]) ?_
    refine run_flat 1 rfl rfl rfl ?_
    refine goT hB [] 400 rfl (by first | exact conj_nil | simp [conj]) ?_
    refine run_close (.inl rfl) ?_
    refine run_retC hpin (apL T [a0, a1, a2, a3, a4, a5, a6, a7], true) ⟨hyes.symm, rfl, fun _ => rfl⟩ [] rfl rfl (by first | exact conj_nil | simp [conj]) rfl ?_
    simp [conj, less_rfl]
end Sx
end
