/- Chapter 47's reference: search. Conditions: as each theorem says. -/
import Derived.Test.YtdjckiilfplnfaaJxc
import Derived.Test.YtdjckiilfplnfaaJxb
set_option linter.unusedSimpArgs false
set_option linter.unusedVariables false
namespace Sx
open Go Go.Proofs
set_option maxRecDepth 100000
set_option pp.deepTerms true
set_option pp.maxSteps 10000000
structure RP (K : Kn) (H : Hi) (L : List Nat) (P : Nat → PT) (V C U : Nat → Value) (N : Nat) : Prop where
  n : L.length ≤ 12
  w : ∀ q, q < L.length → (P q).w = decide ((H.op (L.getD q 0)).k = 1)
  k01 : ∀ q, q < L.length → (H.op (L.getD q 0)).k = 0 ∨ (H.op (L.getD q 0)).k = 1
  d : ∀ q, q < L.length → (P q).d = decide (0 ≤ (H.op (L.getD q 0)).e)
  b : ∀ q, q < L.length → (P q).b = (H.op (L.getD q 0)).b
  e : ∀ q, q < L.length → (P q).e = (H.op (L.getD q 0)).e
  f : ∀ q, q < L.length → (P q).f.toNat + (P q).n ≤ N
  C : ∀ q, q < L.length → Froz K (C q) N 1 (crow (P q))
  U : ∀ q, q < L.length → Froz K (U q) N 1 (urow (wrow (P q)))
theorem RP.mono {K K' : Kn} {H : Hi} {L : List Nat} {P : Nat → PT} {V C U : Nat → Value} {N : Nat} (h : RP K H L P V C U N) (g : ∀ b o, K b = some o → K' b = some o) : RP K' H L P V C U N :=
  ⟨h.n, h.w, h.k01, h.d, h.b, h.e, h.f, fun q hq => (h.C q hq).mono g, fun q hq => (h.U q hq).mono g⟩
def tbrow (A : Nat) : Nat → Nat → SV := fun k _ => .sb (A.testBit k)
theorem ren_tbrow (nx : Nat) (sg : List Nat) (A i k : Nat) : ren nx sg (tbrow A i k) = tbrow A i k := by simp only [tbrow, ren, renF, id]
theorem renR_tbrow (nx : Nat) (sg : List Nat) (A : Nat) : renR nx sg (tbrow A) = tbrow A := by funext i k; exact ren_tbrow nx sg A i k
def LIM : Nat := 5864062014805
theorem run_shareX {P : Program} {ro : Hp} {f : FuncId} {R : Ending → World → Prop} {Z : Type} {N : Nat} {TD : List SI} (Bz : Z → Base) (G : Z → Prop) (c1 : Z → Nat → List SI → Cfg) {Q : Prop} (main : (∀ z, G z → Run P ro (Bz z) f R (c1 z N TD)) → Q) (proof : ∀ z, G z → Run P ro (Bz z) f R (c1 z N TD)) : Q := main proof
theorem app_cat (W W' : Nat → Value) (n m : Nat) (g : Nat → Nat → SV) (hg : ∀ j, j < m → Less (.val (W' j)) (g j 0)) (i : Nat) (hi : i < n + m) : Less (vrow (catW n W W') i 0) (appF (vrow W) n g i 0) := by
  unfold appF
  by_cases h : i < n
  · have hb : Nat.blt i n = true := by simpa [Nat.blt_eq] using h
    rw [hb, cond_true]
    refine Less.of ?_
    unfold vrow catW
    rw [if_pos h]
  · have hb : Nat.blt i n = false := by
      cases hq : Nat.blt i n with
      | false => rfl
      | true => rw [Nat.blt_eq] at hq; omega
    rw [hb, cond_false]
    unfold vrow catW
    rw [if_neg h]
    exact hg _ (by omega)
theorem marks_eq (W : Nat → Value) (vv : Value) (m a : Nat) (ha : a < m + 1) : vrow (catW m W fun _ => vv) a 0 = appF (appF (fun _ _ => SV.und) 0 fun i k => vrow W (0 + i) k) (0 + m) (fun i k => [SV.val vv].getD ((0 + i) * 1 + k) SV.und) a 0 := by
  rw [Nat.zero_add]
  unfold appF
  by_cases h : a < m
  · have hb : Nat.blt a m = true := by simpa [Nat.blt_eq] using h
    rw [hb, cond_true, show Nat.blt a 0 = false from rfl, cond_false]
    unfold vrow catW
    rw [if_pos h]
    simp
  · have hb : Nat.blt a m = false := by
      cases hq : Nat.blt a m with
      | false => rfl
      | true => rw [Nat.blt_eq] at hq; omega
    obtain rfl : a = m := by omega
    rw [hb, cond_false]
    unfold vrow catW
    rw [if_neg h]
    simp
theorem one_at (vv : Value) (j : Nat) (hj : j < 1) : Less (.val vv) ([SV.val vv][j + 0]?.getD SV.und) := by
  obtain rfl : j = 0 := by omega
  exact .rfl
theorem cntU_mono (A : Nat) {i j : Nat} (h : i ≤ j) : cntU A i ≤ cntU A j := by
  obtain ⟨d, rfl⟩ : ∃ d, j = i + d := ⟨j - i, by omega⟩
  clear h
  induction d with
  | zero => exact Nat.le_refl _
  | succ d ih => rw [← Nat.add_assoc, cntU_succ]; omega
theorem more_less (A i n a : Nat) (_ha : a < n) : Less (tbrow (A ||| 2 ^ i) a 0) (updF (appF (fun _ _ => SV.und) 0 fun i k => tbrow A i k) i 0 SV.tt.cells a 0) := by
  refine upd_lessG _ _ i i .tt rfl rfl ?_ (fun a ha => ?_) a
  · unfold tbrow
    rw [Nat.testBit_or, Nat.testBit_two_pow_self, Bool.or_true]
    exact fun _ _ h => h
  · unfold appF
    rw [show Nat.blt a 0 = false from rfl, cond_false]
    unfold tbrow
    rw [Nat.testBit_or, Nat.testBit_two_pow_of_ne (fun q => ha q.symm), Bool.or_false]
    simp
theorem cntR_ge (n : Nat) : ∀ k, n + 1 ≤ cntR n k
  | 0 => Nat.le_refl _
  | k + 1 => Nat.le_add_right _ _
set_option maxHeartbeats 16000000 in
theorem searchR_hcx (H : Hi) (L : List Nat) (P : Nat → PT) (V C U : Nat → Value) (N : Nat) (last : Bool) (hN1 : 1 ≤ N) (hN8 : N ≤ 8) (n : Nat) (hnL : n = L.length) : ∀ (k : Nat) (K : Kn) (ol A : Nat) (l : List Int) (vv : Value) (M : List (List Int)) (mv : Value) (MW : Nat → Value) (X : List (List Int)) (OW : Nat → Value),
    RP K H L P V C U N → A < 65536 → cntU A n < k → GV N l → Froz K vv N 1 (urow fun k => l.getD k 0) → Froz K mv M.length 1 (vrow MW) → VL K N M MW → VL K N X OW → M.length + cntU A n ≤ n → X.length + cntR n (cntU A n) ≤ LIM →
    HCX Try.prog K M0 31 [.sq 2 ol 0 9 n .no, .sq 0 0 0 1 n .no, .val vv, .val mv, .sb last, .sq 1 0 0 1 X.length .own] [(0, .row 0 n n 1 (tbrow A) 4), (1, .row 0 X.length X.length 1 (vrow OW) 23)] [(2, .row ol n n 9 (rprow H L P V C U) anyTy)] 3
      (fun (z : List (List Int) × (Nat → Value)) K' => VL K' N z.1 z.2 ∧ (∀ w, w ∈ z.1 ↔ w ∈ X ∨ SpR (sqOf P n last) (A, l) M w) ∧ z.1.length ≤ X.length + cntR n (cntU A n)) (fun z => ⟨.sq 3 0 0 1 z.1.length .own, [(3, .row 0 z.1.length z.1.length 1 (vrow z.2) 23)], 4⟩) := by
  intro k
  induction k with
  | zero => intro K ol A l vv M mv MW X OW _ _ hc; exact absurd hc (Nat.not_lt_zero _)
  | succ k IH =>
  intro K ol A l vv M mv MW X OW hR hA hc hl hvv hmv hM hX hMn hlim
  have hn12 : n ≤ 12 := by rw [hnL]; exact hR.n
  have hlim1 : X.length + (n + 1) ≤ 5864062014805 := by
    have := cntR_ge n (cntU A n)
    unfold LIM at hlim
    omega
  refine hcx_of_run Try.func31 rfl (fun B hB hK hpin => ?_)
  have hF0 : Fz B K M0 B K := .refl hB hK
  refine goT hB [] 400 rfl (by first | exact conj_nil | simp [conj]) ?_
  refine run_loop ?_
  refine run_inv (ι := Nat) hpin (fun i => i ≤ n) (fun i => n - i) (fun i => [(15, i64 i), (14, .sb ((List.range i).all fun j => A.testBit j || !(P j).du)), (13, .sb ((List.range i).all fun j => A.testBit j || !(P j).d)), (5, .sq 1 0 0 1 X.length .own), (4, .sb last), (3, .val mv), (2, .val vv), (1, .sq 0 0 0 1 n .no), (0, .sq 2 ol 0 9 n .no)]) (fun _ => [])
    (fun _ => [(0, .row 0 n n 1 (tbrow A) 4), (1, .row 0 X.length X.length 1 (vrow OW) 23)]) 3 0 (Nat.zero_le _) [0, 1, 2] rfl rfl (by simp [conj, less_rfl, ren_rprow, renR_rprow, ren_vrow, renR_vrow, ren_tbrow, renR_tbrow]) ?_
  rintro i hi ih
  refine goT hB [(31, 25)] 400 rfl (by clear ih IH; first | exact conj_nil | simp [conj]) ?_
  by_cases hin : i < n
  · have ih := ih (i + 1) (by omega) (by omega)
    have e0 : 0 + ((i : Nat) : Int).toNat = i := by omega
    rw [List.range_succ, List.all_append, List.all_append] at ih
    refine run_tt (by simpa using hin) ?_
    refine goT hB [(31, 31)] 400 rfl (by clear ih IH; simp [conj, hin]) ?_
    rw [e0]
    have hd := hR.d i (by omega)
    cases hA1 : A.testBit i with
    | true =>
      simp only [List.all_cons, List.all_nil, hA1, Bool.true_or, Bool.and_true] at ih
      refine run_tt rfl ?_
      refine goT hB [(31, 45)] 400 rfl (by clear ih IH; simp [conj, hin]) ?_
      rw [e0]
      refine run_tt (by simpa using hA1) ?_
      refine goT hB [] 400 rfl (by clear ih IH; simp [conj, Fits_i64]; omega) ?_
      refine run_back ?_
      refine run_to hpin [0, 1, 2] rfl rfl ?_ ih
      clear ih IH
      simp [conj, less_rfl, ren_rprow, renR_rprow, ren_vrow, renR_vrow, ren_tbrow, renR_tbrow]
    | false =>
      simp only [List.all_cons, List.all_nil, hA1, Bool.false_or, Bool.and_true] at ih
      refine run_ff rfl ?_
      refine goT hB [(31, 40)] 400 rfl (by clear ih IH; simp [conj, hin]) ?_
      rw [e0]
      by_cases he : 0 ≤ (H.op (L.getD i 0)).e
      · rw [hd, decide_eq_true he, Bool.not_true, Bool.and_false] at ih
        refine run_tt (by simpa [rprow] using he) ?_
        refine goT hB [(31, 45)] 400 rfl (by clear ih IH; simp [conj, hin]) ?_
        rw [e0]
        refine run_ff (by simpa using hA1) ?_
        refine goT hB [(31, 52)] 400 rfl (by clear ih IH; simp [conj, hin]) ?_
        rw [e0]
        cases hdu : (P i).du with
        | true =>
          rw [hdu, Bool.not_true, Bool.and_false] at ih
          refine run_tt (by simp [rprow, hdu]) ?_
          refine goT hB [] 400 rfl (by clear ih IH; simp [conj, Fits_i64]; omega) ?_
          refine run_back ?_
          refine run_to hpin [0, 1, 2] rfl rfl ?_ ih
          clear ih IH
          simp [conj, less_rfl, ren_rprow, renR_rprow, ren_vrow, renR_vrow, ren_tbrow, renR_tbrow]
        | false =>
          rw [hdu, Bool.not_false, Bool.and_true] at ih
          refine run_ff (by simp [rprow, hdu]) ?_
          refine goT hB [] 400 rfl (by clear ih IH; simp [conj, Fits_i64]; omega) ?_
          refine run_back ?_
          refine run_to hpin [0, 1, 2] rfl rfl ?_ ih
          clear ih IH
          simp [conj, less_rfl, ren_rprow, renR_rprow, ren_vrow, renR_vrow, ren_tbrow, renR_tbrow]
      · rw [hd, decide_eq_false he, Bool.not_false, Bool.and_true] at ih
        refine run_ff (by simpa [rprow] using he) ?_
        refine goT hB [(31, 45)] 400 rfl (by clear ih IH; simp [conj, hin]) ?_
        rw [e0]
        refine run_ff (by simpa using hA1) ?_
        refine goT hB [(31, 52)] 400 rfl (by clear ih IH; simp [conj, hin]) ?_
        rw [e0]
        cases hdu : (P i).du with
        | true =>
          rw [hdu, Bool.not_true, Bool.and_false] at ih
          refine run_tt (by simp [rprow, hdu]) ?_
          refine goT hB [] 400 rfl (by clear ih IH; simp [conj, Fits_i64]; omega) ?_
          refine run_back ?_
          refine run_to hpin [0, 1, 2] rfl rfl ?_ ih
          clear ih IH
          simp [conj, less_rfl, ren_rprow, renR_rprow, ren_vrow, renR_vrow, ren_tbrow, renR_tbrow]
        | false =>
          rw [hdu, Bool.not_false, Bool.and_true] at ih
          refine run_ff (by simp [rprow, hdu]) ?_
          refine goT hB [] 400 rfl (by clear ih IH; simp [conj, Fits_i64]; omega) ?_
          refine run_back ?_
          refine run_to hpin [0, 1, 2] rfl rfl ?_ ih
          clear ih IH
          simp [conj, less_rfl, ren_rprow, renR_rprow, ren_vrow, renR_vrow, ren_tbrow, renR_tbrow]
  · clear ih
    have : n = i := by omega
    subst this
    refine run_ff (by simp) ?_
    refine goT hB [(31, 54)] 400 rfl (by clear IH; first | exact conj_nil | simp [conj]) ?_
    obtain ⟨q, hq⟩ : ∃ q, q = sqOf P n last := ⟨_, rfl⟩
    rw [← hq]
    have hall : ∀ (p : Nat → Bool), ((List.range n).all fun j => A.testBit j || !p j) = true ↔ A &&& maskN p n = maskN p n := fun p => by
      rw [mask_sub, List.all_eq_true]
      constructor
      · intro h j hj hp
        have := h j (List.mem_range.2 hj)
        rw [hp, Bool.not_true, Bool.or_false] at this
        exact this
      · intro h j hj
        have := h j (List.mem_range.1 hj)
        cases hp : p j with
        | true => rw [this hp]; rfl
        | false => simp
    obtain ⟨sf, hsf⟩ : ∃ sf, sf = ((List.range n).all fun j => A.testBit j || !(P j).du) := ⟨_, rfl⟩
    obtain ⟨wh, hwh⟩ : ∃ wh, wh = ((List.range n).all fun j => A.testBit j || !(P j).d) := ⟨_, rfl⟩
    have hsf2 : sf = true ↔ A &&& q.du = q.du := by rw [hsf, hall, hq]; rfl
    have hwh2 : wh = true ↔ A &&& q.dn = q.dn := by rw [hwh, hall, hq]; rfl
    rw [← hsf, ← hwh]
    clear hsf hwh hall
    apply run_shareX (N := 149) (Z := Base × Kn × Value × (Nat → Value) × List (List Int) × (Nat → Value)) (P := Try.prog) (f := 31) (ro := [(2, .row ol n n 9 (rprow H L P V C U) anyTy)]) (Bz := fun z => z.1)
      (fun z => Fz B K M0 z.1 z.2.1 ∧ PinTo z.1 3 ∧ Froz z.2.1 z.2.2.1 (MkR q (A, l) M).length 1 (vrow z.2.2.2.1) ∧ VL z.2.1 N (MkR q (A, l) M) z.2.2.2.1 ∧ VL z.2.1 N z.2.2.2.2.1 z.2.2.2.2.2 ∧ (∀ w, w ∈ z.2.2.2.2.1 ↔ w ∈ X ∨ TopR q (A, l) M w) ∧ z.2.2.2.2.1.length ≤ X.length + (n + 1))
      (fun z N TD => ⟨⟨fid 31, N, [(16, i64 ((0 : Nat) : Int)), (5, .sq 3 0 0 1 z.2.2.2.2.1.length .own), (4, .sb last), (3, .val z.2.2.1), (2, .val vv), (1, .sq 0 0 0 1 n .no), (0, .sq 2 ol 0 9 n .no)], TD⟩, [], [(0, .row 0 n n 1 (tbrow A) 4), (3, .row 0 z.2.2.2.2.1.length z.2.2.2.2.1.length 1 (vrow z.2.2.2.2.2) 23)], 4⟩)
    · intro next
      cases hs1 : sf with
      | true =>
        have hMkl : (MkR q (A, l) M).length ≤ n + 1 := by
          have : (MkR q (A, l) M).length ≤ M.length + 1 := by
            unfold MkR
            split
            · rw [List.length_append]; exact Nat.le_refl _
            · omega
          omega
        have hMk : MkR q (A, l) M = M ++ [l] := by unfold MkR; rw [if_pos (hsf2.1 hs1)]
        refine run_tt rfl ?_
        refine goT hB [] 400 rfl (by clear IH next; first | exact conj_nil | simp [conj]) ?_
        refine run_open hK 55 hmv (by decide) rfl (fun o1 => ?_)
        refine goT hB [] 6 rfl (by clear IH next; simp [conj]; exact ⟨by omega, by omega, by omega, by omega, fun _ _ => rfl⟩) ?_
        refine run_close (.inl rfl) ?_
        refine run_freeze hB hK 3 rfl rfl (Nat.le_refl _) (fun a c ha hc => by
          obtain rfl : c = 0 := by omega
          rw [← marks_eq MW vv M.length a (by omega)]; rfl) rfl (fun mv1 B1 K1 hmv1 hF1 hp1 => ?_)
        have hpin1 := hpin.fz hF1 hp1
        have hmv2 : Froz K1 mv1 (MkR q (A, l) M).length 1 (vrow (catW M.length MW fun _ => vv)) := by
          rw [hMk, List.length_append, List.length_singleton]
          rw [Nat.zero_add] at hmv1
          exact hmv1.congr fun a c ha hc => by
            obtain rfl : c = 0 := by omega
            have := marks_eq MW vv M.length a ha
            rw [Nat.zero_add] at this
            exact this
        have hM2 : VL K1 N (MkR q (A, l) M) (catW M.length MW fun _ => vv) := by rw [hMk]; exact (hM.fz hF1).app (VL.one hl (hvv.fz hF1))
        refine goT hF1.ok [(31, 60)] 400 rfl (by clear IH next; first | exact conj_nil | simp [conj]) ?_
        cases hw1 : wh with
        | true =>
          refine run_tt rfl ?_
          refine goT hF1.ok [(31, 62)] 400 rfl (by clear IH next; first | exact conj_nil | simp [conj]) ?_
          cases hlast : last with
          | true =>
            rw [hlast] at next hq
            have hql : q.last = true := by rw [hq]; rfl
            refine run_tt rfl ?_
            refine goT hF1.ok [(31, 68)] 400 rfl (by clear IH next; simp [conj]; omega) ?_
            refine run_tt rfl ?_
            refine goT hF1.ok [(31, 70)] 400 rfl (by clear IH next; first | exact conj_nil | simp [conj]) ?_
            refine run_tt rfl ?_
            refine goT hF1.ok [] 400 rfl (by clear IH next; first | exact conj_nil | simp [conj]) ?_
            have next := next (B1, K1, mv1, (catW M.length MW fun _ => vv), X ++ [l], catW X.length OW fun _ => vv) ⟨hF1, hpin1, hmv2, hM2, (hX.fz hF1).app (VL.one hl (hvv.fz hF1)), fun w => by
              show w ∈ X ++ [l] ↔ _
              rw [List.mem_append, List.mem_singleton]
              unfold TopR
              rw [hql]
              simp [hwh2.1 hw1], by show (X ++ [l]).length ≤ _; rw [List.length_append]; show _ + 1 ≤ _; omega⟩
            dsimp only at next
            rw [List.length_append, List.length_singleton] at next
            refine run_to hpin1 [0, 1, 2, 8] rfl rfl ?_ next
            clear IH next
            simp [conj, less_rfl, ren_rprow, renR_rprow, ren_vrow, renR_vrow, ren_tbrow, renR_tbrow]
            exact fun a ha => app_cat OW (fun _ => vv) X.length 1 _ (fun j hj => one_at vv j hj) a ha
          | false =>
            rw [hlast] at next hq
            have hql : q.last = false := by rw [hq]; rfl
            refine run_ff rfl ?_
            refine goT hF1.ok [(31, 68)] 400 rfl (by clear IH next; simp [conj]) ?_
            refine run_tt rfl ?_
            refine goT hF1.ok [(31, 70)] 400 rfl (by clear IH next; first | exact conj_nil | simp [conj]) ?_
            refine run_ff rfl ?_
            refine goT hF1.ok [] 400 rfl (by clear IH next; first | exact conj_nil | simp [conj]) ?_
            refine run_open hF1.le 74 hmv2 (by decide) rfl (fun o2 => ?_)
            refine goT hF1.ok [] 400 rfl (by clear IH next; simp [conj]; exact ⟨by omega, by omega, fun _ _ => rfl⟩) ?_
            have next := next (B1, K1, mv1, (catW M.length MW fun _ => vv), X ++ MkR q (A, l) M, catW X.length OW (catW M.length MW fun _ => vv)) ⟨hF1, hpin1, hmv2, hM2, (hX.fz hF1).app hM2, fun w => by
              show w ∈ X ++ MkR q (A, l) M ↔ _
              rw [List.mem_append]
              unfold TopR
              rw [hql]
              simp [hwh2.1 hw1], by show (X ++ MkR q (A, l) M).length ≤ _; rw [List.length_append]; omega⟩
            dsimp only at next
            rw [List.length_append] at next
            refine run_close (.inl rfl) ?_
            refine run_to hpin1 [0, 1, 2, 8] rfl rfl ?_ next
            clear IH next
            simp [conj, less_rfl, ren_rprow, renR_rprow, ren_vrow, renR_vrow, ren_tbrow, renR_tbrow]
            exact fun a ha => app_cat OW (catW M.length MW fun _ => vv) X.length (MkR q (A, l) M).length _ (fun j _ => .rfl) a ha
        | false =>
          refine run_ff rfl ?_
          refine goT hF1.ok [(31, 68)] 400 rfl (by clear IH next; first | exact conj_nil | simp [conj]) ?_
          refine run_ff rfl ?_
          refine goT hF1.ok [] 400 rfl (by clear IH next; first | exact conj_nil | simp [conj]) ?_
          have hno : ∀ w, ¬ TopR q (A, l) M w := fun w z => by have := hwh2.2 z.1; rw [hw1] at this; cases this
          have next := next (B1, K1, mv1, (catW M.length MW fun _ => vv), X, OW) ⟨hF1, hpin1, hmv2, hM2, (hX.fz hF1), fun w => ⟨.inl, fun z => z.elim id fun z => (hno w z).elim⟩, by show X.length ≤ _; omega⟩
          dsimp only at next
          refine run_to hpin1 [0, 1, 2, 1] rfl rfl ?_ next
          clear IH next
          simp [conj, less_rfl, ren_rprow, renR_rprow, ren_vrow, renR_vrow, ren_tbrow, renR_tbrow]
      | false =>
        have hMkl : (MkR q (A, l) M).length ≤ n + 1 := by
          have : (MkR q (A, l) M).length ≤ M.length + 1 := by
            unfold MkR
            split
            · rw [List.length_append]; exact Nat.le_refl _
            · omega
          omega
        have hMk : MkR q (A, l) M = M := by unfold MkR; rw [if_neg (fun z => by have := hsf2.2 z; rw [hs1] at this; cases this)]
        refine run_ff rfl ?_
        refine goT hB [(31, 60)] 400 rfl (by clear IH next; first | exact conj_nil | simp [conj]) ?_
        have hmv2 : Froz K mv (MkR q (A, l) M).length 1 (vrow MW) := by rw [hMk]; exact hmv
        have hM2 : VL K N (MkR q (A, l) M) MW := by rw [hMk]; exact hM
        cases hw1 : wh with
        | true =>
          refine run_tt rfl ?_
          refine goT hB [(31, 62)] 400 rfl (by clear IH next; first | exact conj_nil | simp [conj]) ?_
          cases hlast : last with
          | true =>
            rw [hlast] at next hq
            have hql : q.last = true := by rw [hq]; rfl
            refine run_tt rfl ?_
            refine goT hB [(31, 68)] 400 rfl (by clear IH next; simp [conj]; omega) ?_
            refine run_tt rfl ?_
            refine goT hB [(31, 70)] 400 rfl (by clear IH next; first | exact conj_nil | simp [conj]) ?_
            refine run_tt rfl ?_
            refine goT hB [] 400 rfl (by clear IH next; first | exact conj_nil | simp [conj]) ?_
            have next := next (B, K, mv, MW, X ++ [l], catW X.length OW fun _ => vv) ⟨hF0, hpin, hmv2, hM2, hX.app (VL.one hl hvv), fun w => by
              show w ∈ X ++ [l] ↔ _
              rw [List.mem_append, List.mem_singleton]
              unfold TopR
              rw [hql]
              simp [hwh2.1 hw1], by show (X ++ [l]).length ≤ _; rw [List.length_append]; show _ + 1 ≤ _; omega⟩
            dsimp only at next
            rw [List.length_append, List.length_singleton] at next
            refine run_to hpin [0, 1, 2, 4] rfl rfl ?_ next
            clear IH next
            simp [conj, less_rfl, ren_rprow, renR_rprow, ren_vrow, renR_vrow, ren_tbrow, renR_tbrow]
            exact fun a ha => app_cat OW (fun _ => vv) X.length 1 _ (fun j hj => one_at vv j hj) a ha
          | false =>
            rw [hlast] at next hq
            have hql : q.last = false := by rw [hq]; rfl
            refine run_ff rfl ?_
            refine goT hB [(31, 68)] 400 rfl (by clear IH next; simp [conj]) ?_
            refine run_tt rfl ?_
            refine goT hB [(31, 70)] 400 rfl (by clear IH next; first | exact conj_nil | simp [conj]) ?_
            refine run_ff rfl ?_
            refine goT hB [] 400 rfl (by clear IH next; first | exact conj_nil | simp [conj]) ?_
            refine run_open hK 74 hmv2 (by decide) rfl (fun o2 => ?_)
            refine goT hB [] 400 rfl (by clear IH next; simp [conj]; exact ⟨by omega, by omega, fun _ _ => rfl⟩) ?_
            have next := next (B, K, mv, MW, X ++ MkR q (A, l) M, catW X.length OW MW) ⟨hF0, hpin, hmv2, hM2, hX.app hM2, fun w => by
              show w ∈ X ++ MkR q (A, l) M ↔ _
              rw [List.mem_append]
              unfold TopR
              rw [hql]
              simp [hwh2.1 hw1], by show (X ++ MkR q (A, l) M).length ≤ _; rw [List.length_append]; omega⟩
            dsimp only at next
            rw [List.length_append] at next
            refine run_close (.inl rfl) ?_
            refine run_to hpin [0, 1, 2, 4] rfl rfl ?_ next
            clear IH next
            simp [conj, less_rfl, ren_rprow, renR_rprow, ren_vrow, renR_vrow, ren_tbrow, renR_tbrow]
            exact fun a ha => app_cat OW MW X.length (MkR q (A, l) M).length _ (fun j _ => .rfl) a ha
        | false =>
          refine run_ff rfl ?_
          refine goT hB [(31, 68)] 400 rfl (by clear IH next; first | exact conj_nil | simp [conj]) ?_
          refine run_ff rfl ?_
          refine goT hB [] 400 rfl (by clear IH next; first | exact conj_nil | simp [conj]) ?_
          have hno : ∀ w, ¬ TopR q (A, l) M w := fun w z => by have := hwh2.2 z.1; rw [hw1] at this; cases this
          have next := next (B, K, mv, MW, X, OW) ⟨hF0, hpin, hmv2, hM2, hX, fun w => ⟨.inl, fun z => z.elim id fun z => (hno w z).elim⟩, by show X.length ≤ _; omega⟩
          dsimp only at next
          refine run_to hpin [0, 1, 2, 1] rfl rfl ?_ next
          clear IH next
          simp [conj, less_rfl, ren_rprow, renR_rprow, ren_vrow, renR_vrow, ren_tbrow, renR_tbrow]
    rintro ⟨B1, K1, mv1, MW1, X1, OW1⟩ ⟨hF1, hpin1, hmv1, hM1, hX1, hX1m, hX1l⟩
    dsimp only at hF1 hpin1 hmv1 hM1 hX1 hX1m hX1l ⊢
    clear hsf2 hwh2
    obtain ⟨M2, hM2⟩ : ∃ M2, M2 = MkR q (A, l) M := ⟨_, rfl⟩
    have hM2l : M2.length ≤ M.length + 1 := by
      rw [hM2]
      unfold MkR
      split
      · rw [List.length_append]; exact Nat.le_refl _
      · omega
    rw [← hM2] at hmv1 hM1
    refine run_loop ?_
    refine run_invX (ι := Nat × List (List Int) × (Nat → Value)) hF1 hpin1 (fun x K' => (Froz K' mv1 M2.length 1 (vrow MW1) ∧ VL K' N M2 MW1) ∧ x.1 ≤ n ∧ VL K' N x.2.1 x.2.2 ∧ (∀ w, w ∈ x.2.1 ↔ w ∈ X1 ∨ ∃ j, j < x.1 ∧ StpI q (A, l) j ∧ SpR q (chI q (A, l) j) M2 w) ∧ x.2.1.length ≤ X1.length + cntU A x.1 * cntR n (cntU A n - 1))
      (fun x => n - x.1) (fun x => [(16, i64 x.1), (5, .sq 3 0 0 1 x.2.1.length .own), (4, .sb last), (3, .val mv1), (2, .val vv), (1, .sq 0 0 0 1 n .no), (0, .sq 2 ol 0 9 n .no)]) (fun _ => [])
      (fun x => [(0, .row 0 n n 1 (tbrow A) 4), (3, .row 0 x.2.1.length x.2.1.length 1 (vrow x.2.2) 23)]) (0, X1, OW1) ⟨⟨hmv1, hM1⟩, Nat.zero_le _, hX1, fun w => ⟨.inl, fun z => z.elim id fun ⟨j, hj, _⟩ => absurd hj (Nat.not_lt_zero _)⟩, Nat.le_add_right _ _⟩ ?_
    rintro ⟨i, Y, YW⟩ B2 K2 hF2 hpin2 ⟨⟨hmv2, hM2v⟩, hi2, hY, hYm, hYl⟩ ih
    dsimp only at hmv2 hM2v hi2 hY hYm hYl ih ⊢
    have hB2 := hF2.ok
    have hK2 := hF2.le
    refine goT hB2 [(31, 79)] 400 rfl (by clear ih IH; first | exact conj_nil | simp [conj]) ?_
    by_cases hin2 : i < n
    · have e0 : 0 + ((i : Nat) : Int).toNat = i := by omega
      have skip : ¬ (∃ w, StpI q (A, l) i ∧ SpR q (chI q (A, l) i) M2 w) → ∀ (B'' : Base) (K'' : Kn), Fz B K M0 B'' K'' → PinTo B'' 3 → (Froz K'' mv1 M2.length 1 (vrow MW1) ∧ VL K'' N M2 MW1) → VL K'' N Y YW → _ := fun hno B'' K'' g1 g2 g0 g3 => ih (i + 1, Y, YW) B'' K'' g1 g2 ⟨g0, hin2, g3, fun w => by
          show w ∈ Y ↔ w ∈ X1 ∨ ∃ j, j < i + 1 ∧ _
          rw [hYm w]
          refine or_congr Iff.rfl ⟨fun ⟨j, h1, h2⟩ => ⟨j, by omega, h2⟩, fun ⟨j, h1, h2⟩ => ⟨j, ?_, h2⟩⟩
          rcases Nat.eq_or_lt_of_le (Nat.le_of_lt_succ h1) with e | e
          · subst e; exact absurd ⟨w, h2⟩ hno
          · exact e, by
          show Y.length ≤ X1.length + cntU A (i + 1) * _
          have : cntU A i ≤ cntU A (i + 1) := by rw [cntU_succ]; exact Nat.le_add_right _ _
          exact Nat.le_trans hYl (Nat.add_le_add_left (Nat.mul_le_mul_right _ this) _)⟩ (by show n - (i + 1) < n - i; omega)
      refine run_tt (by simpa using hin2) ?_
      refine goT hB2 [(31, 85)] 400 rfl (by clear ih IH skip; simp [conj, hin2]) ?_
      rw [e0]
      cases hA1 : A.testBit i with
      | true =>
        have ih := skip (fun ⟨w, h1, _⟩ => by have := h1.1; unfold frS at this; rw [hA1] at this; cases this) B2 K2 hF2 hpin2 ⟨hmv2, hM2v⟩ hY
        dsimp only at ih
        refine run_tt rfl ?_
        refine goT hB2 [] 400 rfl (by clear ih IH skip; simp [conj, Fits_i64]; omega) ?_
        refine run_back ?_
        refine run_to hpin2 [0, 1, 2, 3] rfl rfl ?_ ih
        clear ih IH skip
        simp [conj, less_rfl, ren_rprow, renR_rprow, ren_vrow, renR_vrow, ren_tbrow, renR_tbrow]
      | false =>
        refine run_ff rfl ?_
        refine goT hB2 [] 400 rfl (by clear ih IH skip; first | exact conj_nil | simp [conj]) ?_
        refine run_loop ?_
        refine run_inv (ι := Nat) hpin2 (fun j => j ≤ n) (fun j => n - j) (fun j => [(18, i64 j), (17, .sb ((List.range j).all fun a => !pbf P i a || A.testBit a)), (16, i64 i), (5, .sq 3 0 0 1 Y.length .own), (4, .sb last), (3, .val mv1), (2, .val vv), (1, .sq 0 0 0 1 n .no), (0, .sq 2 ol 0 9 n .no)]) (fun _ => [])
          (fun _ => [(0, .row 0 n n 1 (tbrow A) 4), (3, .row 0 Y.length Y.length 1 (vrow YW) 23)]) 4 0 (Nat.zero_le _) [0, 1, 2, 3] rfl rfl (by clear ih IH skip; simp [conj, less_rfl, ren_rprow, renR_rprow, ren_vrow, renR_vrow, ren_tbrow, renR_tbrow]) ?_
        rintro j hj ihj
        refine goT hB2 [(31, 89)] 400 rfl (by clear ih IH skip ihj; first | exact conj_nil | simp [conj]) ?_
        by_cases hjn : j < n
        · have ihj := ihj (j + 1) (by omega) (by omega)
          rw [List.range_succ, List.all_append] at ihj
          have e1 : 0 + ((j : Nat) : Int).toNat = j := by omega
          refine run_tt (by simpa using hjn) ?_
          refine goT hB2 [(31, 120)] 400 rfl (by clear ih IH skip ihj; simp [conj, hin2, hjn]) ?_
          rw [e0, e1]
          have hpb : pbf P i j = (decide (0 ≤ (H.op (L.getD j 0)).e) && decide ((H.op (L.getD j 0)).e < (H.op (L.getD i 0)).b)) := by
            unfold pbf
            rw [hR.d j (by omega), hR.e j (by omega), hR.b i (by omega)]
          cases hbad : (!A.testBit j && decide (0 ≤ (H.op (L.getD j 0)).e) && decide ((H.op (L.getD j 0)).e < (H.op (L.getD i 0)).b)) with
          | true =>
            have hx : ([j].all fun a => !pbf P i a || A.testBit a) = false := by
              simp only [List.all_cons, List.all_nil, Bool.and_true, hpb]
              revert hbad
              cases A.testBit j <;> cases decide (0 ≤ (H.op (L.getD j 0)).e) <;> cases decide ((H.op (L.getD j 0)).e < (H.op (L.getD i 0)).b) <;> simp
            rw [hx, Bool.and_false] at ihj
            refine run_tt rfl ?_
            refine goT hB2 [] 400 rfl (by clear ih IH skip ihj; simp [conj, Fits_i64]; omega) ?_
            refine run_back ?_
            refine run_to hpin2 [0, 1, 2, 3] rfl rfl ?_ ihj
            clear ih IH skip ihj
            simp [conj, less_rfl, ren_rprow, renR_rprow, ren_vrow, renR_vrow, ren_tbrow, renR_tbrow]
          | false =>
            have hx : ([j].all fun a => !pbf P i a || A.testBit a) = true := by
              simp only [List.all_cons, List.all_nil, Bool.and_true, hpb]
              revert hbad
              cases A.testBit j <;> cases decide (0 ≤ (H.op (L.getD j 0)).e) <;> cases decide ((H.op (L.getD j 0)).e < (H.op (L.getD i 0)).b) <;> simp
            rw [hx, Bool.and_true] at ihj
            refine run_ff rfl ?_
            refine goT hB2 [] 400 rfl (by clear ih IH skip ihj; simp [conj, Fits_i64]; omega) ?_
            refine run_back ?_
            refine run_to hpin2 [0, 1, 2, 3] rfl rfl ?_ ihj
            clear ih IH skip ihj
            simp [conj, less_rfl, ren_rprow, renR_rprow, ren_vrow, renR_vrow, ren_tbrow, renR_tbrow]
        · clear ihj
          have : n = j := by omega
          subst this
          refine run_ff (by simp) ?_
          refine goT hB2 [] 400 rfl (by clear ih IH skip; simp [conj, hin2]) ?_
          rw [e0]
          obtain ⟨fr, hfr⟩ : ∃ fr, fr = ((List.range n).all fun a => !pbf P i a || A.testBit a) := ⟨_, rfl⟩
          have hBf : q.Bf i = maskN (pbf P i) n := by rw [hq]; rfl
          have hfr2 : frS q A i = fr := by
            unfold frS
            rw [hA1, hBf, Bool.not_false, Bool.true_and, hfr]
            rw [Bool.eq_iff_iff, decide_eq_true_iff, andn_zero _ _ _ (by omega), List.all_eq_true]
            constructor
            · intro h a ha
              cases hp : pbf P i a with
              | false => rfl
              | true => rw [h a (List.mem_range.1 ha) hp]; rfl
            · intro h a ha hp
              have := h a (List.mem_range.2 ha)
              rw [hp] at this
              exact this
          rw [← hfr]
          clear hfr
          have hR2 := hR.mono (fun b o e => hF2.old b o e (fun h => h))
          refine run_callX (applyR_hcx (H.op (L.getD i 0)) (V (L.getD i 0)) (C i) (U i) vv (P i) N l hN1 hN8 hl.1 hl.2 (hR.w i (by omega)) (hR.k01 i (by omega)) (hR.f i (by omega)) (hR2.C i (by omega)) (hR2.U i (by omega)) (hvv.fz hF2)) named hB2 hK2 (fun _ h => h.elim) (.inr fun _ h => h) [] rfl rfl rfl rfl (by first | exact conj_nil | simp [conj]) (by clear ih IH skip; simp [conj, less_rfl, partL]) ?_
          rintro (_ | w) B3 K3 hz hF3 hp3
          · have hF3' := hF2.trans0 hF3 hK fun _ h => h.elim
            have ih := skip (fun ⟨w, h1, _⟩ => by have := h1.2; rw [hq] at this; rw [show (sqOf P n last).P i = P i from rfl, hz] at this; cases this) B3 K3 hF3' (hpin2.fz hF3 hp3) ⟨hmv2.fz hF3, hM2v.fz hF3⟩ (hY.fz hF3)
            dsimp only at ih
            refine ⟨show 0 ≤ 0 by omega, _, _, _, rfl, rfl, rfl, ?_⟩
            refine goT hF3.ok [(31, 130)] 400 rfl (by clear ih IH skip; first | exact conj_nil | simp [conj]) ?_
            cases fr with
            | true =>
              refine run_tt rfl ?_
              refine goT hF3.ok [] 400 rfl (by clear ih IH skip; simp [conj, Fits_i64]; omega) ?_
              refine run_back ?_
              refine run_to (hpin2.fz hF3 hp3) [0, 1, 2, 3] rfl rfl ?_ ih
              clear ih IH skip
              simp [conj, less_rfl, ren_rprow, renR_rprow, ren_vrow, renR_vrow, ren_tbrow, renR_tbrow]
            | false =>
              refine run_ff rfl ?_
              refine goT hF3.ok [] 400 rfl (by clear ih IH skip; simp [conj, Fits_i64]; omega) ?_
              refine run_back ?_
              refine run_to (hpin2.fz hF3 hp3) [0, 1, 2, 3] rfl rfl ?_ ih
              clear ih IH skip
              simp [conj, less_rfl, ren_rprow, renR_rprow, ren_vrow, renR_vrow, ren_tbrow, renR_tbrow]
          · obtain ⟨hz1, hz2⟩ := hz
            have hF3' := hF2.trans0 hF3 hK fun _ h => h.elim
            have hpin3 := hpin2.fz hF3 hp3
            refine ⟨show 0 ≤ 0 by omega, _, _, _, rfl, rfl, rfl, ?_⟩
            refine goT hF3.ok [(31, 130)] 400 rfl (by clear ih IH skip; first | exact conj_nil | simp [conj]) ?_
            cases fr with
            | false =>
              have ih := skip (fun ⟨w, h1, _⟩ => by have := h1.1; rw [hfr2] at this; cases this) B3 K3 hF3' hpin3 ⟨hmv2.fz hF3, hM2v.fz hF3⟩ (hY.fz hF3)
              dsimp only at ih
              refine run_ff rfl ?_
              refine goT hF3.ok [] 400 rfl (by clear ih IH skip; simp [conj, Fits_i64]; omega) ?_
              refine run_back ?_
              refine run_to hpin3 [0, 1, 2, 3] rfl rfl ?_ ih
              clear ih IH skip
              simp [conj, less_rfl, ren_rprow, renR_rprow, ren_vrow, renR_vrow, ren_tbrow, renR_tbrow]
            | true =>
              have hst : StpI q (A, l) i := ⟨hfr2, by rw [hq]; exact hz1⟩
              have hchi : chI q (A, l) i = (A ||| 2 ^ i, apL (P i) l) := by rw [hq]; rfl
              have hu1 := cntU_or A i hA1 n
              rw [if_pos hin2] at hu1
              have hus := cntU_succ A i
              rw [hA1, cond_false] at hus
              have hum := cntU_mono A (show i + 1 ≤ n by omega)
              obtain ⟨u', hu'⟩ : ∃ u', cntU A n = u' + 1 := ⟨cntU A n - 1, by omega⟩
              have hu2 : cntU (A ||| 2 ^ i) n = u' := by omega
              have hcR : cntR n (cntU A n) = (n + 1) + (u' + 1) * cntR n u' := by rw [hu']; rfl
              have hYl2 : Y.length + cntR n u' ≤ X1.length + cntU A (i + 1) * cntR n u' := by
                rw [hus, Nat.add_mul, Nat.one_mul]
                rw [hu', Nat.add_sub_cancel] at hYl
                omega
              have hYl3 : Y.length + cntR n u' ≤ X.length + cntR n (cntU A n) := by
                rw [hcR]
                have := Nat.mul_le_mul_right (cntR n u') (show cntU A (i + 1) ≤ u' + 1 by omega)
                omega
              have hg : GV N (apL (P i) l) := ⟨apL_len _ _, fun a ha => by
                by_cases h8 : a < 8
                · rw [apL_getD _ _ _ h8]
                  have := hR.f i (by omega)
                  unfold apF
                  rw [if_neg (by omega)]
                  exact hl.2 a ha
                · exact getD_of_len (apL_len _ _) (by omega)⟩
              have hrec := IH K3 ol (A ||| 2 ^ i) (apL (P i) l) w M2 mv1 MW1 Y YW (hR2.mono fun b o e => hF3.old b o e (fun h => h)) (or_lt hA (Nat.pow_lt_pow_right (n := 16) (by decide) (by omega))) (by omega) hg hz2 (hmv2.fz hF3) (hM2v.fz hF3) (hY.fz hF3) (by omega) (by rw [hu2]; exact Nat.le_trans hYl3 hlim)
              refine run_tt rfl ?_
              refine goT hF3.ok [(31, 145)] 400 rfl (by clear ih IH skip hrec; simp [conj, hin2]; exact ⟨by omega, by omega, fun _ _ => rfl⟩) ?_
              rw [e0]
              refine run_to hpin3 [0, 1, 2, 3, 4] (nx' := 5) (rest' := []) (sl' := [(144, .val mv1), (145, .sb last), (143, .val w), (142, .sq 4 0 0 1 n .no), (141, .sq 2 ol 0 9 n .no), (16, i64 i), (5, .sq 3 0 0 1 Y.length .own), (4, .sb last), (3, .val mv1), (2, .val vv), (1, .sq 0 0 0 1 n .no), (0, .sq 2 ol 0 9 n .no)])
                (hp' := [(4, .row 0 n n 1 (tbrow (A ||| 2 ^ i)) 4), (0, .row 0 n n 1 (tbrow A) 4), (3, .row 0 Y.length Y.length 1 (vrow YW) 23)]) rfl rfl (by
                clear ih IH skip hrec
                simp [conj, less_rfl, ren_rprow, renR_rprow, ren_vrow, renR_vrow, ren_tbrow, renR_tbrow]
                exact fun a ha => more_less A i n a ha) ?_
              refine goT hF3.ok [] 400 rfl (by clear ih IH skip hrec; first | exact conj_nil | simp [conj]) ?_
              refine run_callX hrec named hF3.ok hF3.le (fun _ h => h.elim) (.inr fun _ h => h) [4, 3, 2] rfl rfl rfl rfl (by first | exact conj_nil | simp [conj]) (by clear ih IH skip hrec; simp [conj, less_rfl, ren_rprow, renR_rprow, ren_vrow, renR_vrow, ren_tbrow, renR_tbrow]) ?_
              rintro ⟨Y2, YW2⟩ B4 K4 ⟨hY2, hY2m, hY2l⟩ hF4 hp4
              dsimp only at hY2 hY2m hY2l
              have hF4' := hF3'.trans0 hF4 hK fun _ h => h.elim
              have hpin4 := hpin3.fz hF4 hp4
              refine ⟨show 3 ≤ 4 by omega, _, _, _, rfl, rfl, rfl, ?_⟩
              have ih := ih (i + 1, Y2, YW2) B4 K4 hF4' hpin4 ⟨⟨(hmv2.fz hF3).fz hF4, (hM2v.fz hF3).fz hF4⟩, hin2, hY2, fun w' => by
                show w' ∈ Y2 ↔ w' ∈ X1 ∨ ∃ j, j < i + 1 ∧ _
                rw [hY2m w', hYm w', or_assoc]
                refine or_congr Iff.rfl ⟨fun h => ?_, fun ⟨j, h1, h2, h3⟩ => ?_⟩
                · rcases h with ⟨j, h1, h2⟩ | h
                  · exact ⟨j, by omega, h2⟩
                  · exact ⟨i, Nat.lt_succ_self _, hst, by rw [hchi, hq]; exact h⟩
                · rcases Nat.eq_or_lt_of_le (Nat.le_of_lt_succ h1) with e | e
                  · subst e; rw [hchi, hq] at h3; exact .inr h3
                  · exact .inl ⟨j, e, h2, h3⟩, by
                show Y2.length ≤ X1.length + cntU A (i + 1) * cntR n (cntU A n - 1)
                rw [hu2] at hY2l
                rw [hu', Nat.add_sub_cancel]
                omega⟩ (by show n - (i + 1) < n - i; omega)
              dsimp only at ih
              refine goT hF4.ok [] 400 rfl (by clear ih IH skip hrec; simp [conj, Fits_i64]; omega) ?_
              refine run_back ?_
              refine run_to hpin4 [0, 1, 2, 5] rfl rfl ?_ ih
              clear ih IH skip hrec
              simp [conj, less_rfl, ren_rprow, renR_rprow, ren_vrow, renR_vrow, ren_tbrow, renR_tbrow]
    · clear ih
      have : n = i := by omega
      subst this
      refine run_ff (by simp) ?_
      refine goT hB2 [] 400 rfl (by clear IH; first | exact conj_nil | simp [conj]) ?_
      refine run_retF hF2 hpin2 (Y, YW) ⟨hY, fun w => by
        show w ∈ Y ↔ _
        rw [hYm w, hX1m w, spR_iff, hM2, or_assoc]
        have : q.n = n := by rw [hq]; rfl
        rw [this], by
        show Y.length ≤ X.length + cntR n (cntU A n)
        refine Nat.le_trans hYl ?_
        cases hu : cntU A n with
        | zero => rw [Nat.zero_mul]; show _ ≤ X.length + (n + 1); omega
        | succ u' =>
          show _ ≤ X.length + ((n + 1) + (u' + 1) * cntR n u')
          rw [Nat.add_sub_cancel]
          omega⟩ [0, 1, 2, 3] rfl rfl (by first | exact conj_nil | simp [conj]) rfl ?_
      simp [conj, less_rfl, ren_rprow, renR_rprow, ren_vrow, renR_vrow, ren_tbrow, renR_tbrow]
end Sx
