/- Texts of this law, joined: what the functions do. Conditions: as each theorem says. -/
import Derived.Test.YtdjckiilfplnfaaOwnX8
import Derived.Test.YtdjckiilfplnfaaOwnX5
set_option linter.unusedSimpArgs false
set_option linter.unusedVariables false
section
/- Chapter 47's reference: Parts. Conditions: as each theorem says. -/
namespace Sx
open Go Go.Proofs
set_option maxRecDepth 100000
set_option pp.deepTerms true
set_option pp.maxSteps 10000000
/-- The reference's parts, as they lie. -/
def rprow (H : Hi) (L : List Nat) (T : Nat → PT) (V C U : Nat → Value) : Nat → Nat → SV := fun q k => match k with
  | 0 => i64 (H.op (L.getD q 0)).k
  | 1 => i64 (H.op (L.getD q 0)).f
  | 2 => .val (V (L.getD q 0))
  | 3 => i64 (H.op (L.getD q 0)).b
  | 4 => i64 (H.op (L.getD q 0)).e
  | 5 => .sb (H.op (L.getD q 0)).fo
  | 6 => .sb (T q).du
  | 7 => .val (C q)
  | _ => .val (U q)
theorem ren_rprow (nx : Nat) (sg : List Nat) (H : Hi) (L : List Nat) (T : Nat → PT) (V C U : Nat → Value) (i k : Nat) : ren nx sg (rprow H L T V C U i k) = rprow H L T V C U i k := by
  unfold rprow; split <;> simp only [ren, renF, id]
theorem renR_rprow (nx : Nat) (sg : List Nat) (H : Hi) (L : List Nat) (T : Nat → PT) (V C U : Nat → Value) : renR nx sg (rprow H L T V C U) = rprow H L T V C U := by funext i k; exact ren_rprow nx sg H L T V C U i k
theorem rprow_closed (H : Hi) (L : List Nat) (T : Nat → PT) (V C U : Nat → Value) (i k : Nat) : (rprow H L T V C U i k).closed = true := by unfold rprow; split <;> rfl
theorem upd_lessG (f g : Nat → Nat → SV) (j j' : Nat) (x : SV) (hj : j' = j) (hx : x.cells = [x]) (h : Less (f j 0) x) (hne : ∀ a, a ≠ j → f a 0 = g a 0) (a : Nat) : Less (f a 0) (updF g j' 0 x.cells a 0) := by
  subst hj
  rw [hx]
  by_cases e : a = j'
  · subst e
    unfold updF
    rw [if_pos ⟨rfl, by omega, by simp⟩]
    exact h
  · refine Less.of ?_
    unfold updF
    rw [if_neg (fun q => e q.1), hne a e]
theorem app_rprow (H : Hi) (u : Int) (l L : List Nat) (i : Nat) (V C U : Nat → Value) (c w : Value) (du : SV) (hdu : Less (.sb (ptOf H u l i).du) du) (j k : Nat) (hj : j < L.length + 1) (hk : k < 9) :
    Less (rprow H (L ++ [i]) (fun q => ptOf H u l ((L ++ [i]).getD q 0)) V (fun q => if q = L.length then c else C q) (fun q => if q = L.length then w else U q) j k) (appF (rprow H L (fun q => ptOf H u l (L.getD q 0)) V C U) L.length (fun j k => [i64 (H.op i).k, i64 (H.op i).f, .val (V i), i64 (H.op i).b, i64 (H.op i).e, .sb (H.op i).fo, du, .val c, .val w][j * 9 + k]?.getD SV.und) j k) := by
  unfold appF
  by_cases h : j < L.length
  · have hb : Nat.blt j L.length = true := by simpa [Nat.blt_eq] using h
    have hne : j ≠ L.length := by omega
    have e : (L ++ [i]).getD j 0 = L.getD j 0 := by rw [List.getD_eq_getElem?_getD, List.getElem?_append_left h, ← List.getD_eq_getElem?_getD]
    rw [hb, cond_true]
    refine Less.of ?_
    unfold rprow
    dsimp only
    rw [e, if_neg hne, if_neg hne]
  · have : j = L.length := by omega
    subst this
    have hb : Nat.blt L.length L.length = false := by
      cases hq : Nat.blt L.length L.length with
      | false => rfl
      | true => rw [Nat.blt_eq] at hq; omega
    have e : (L ++ [i]).getD L.length 0 = i := by simp
    rw [hb, cond_false, Nat.sub_self]
    unfold rprow
    dsimp only
    rw [e, if_pos rfl, if_pos rfl]
    match k, hk with
    | 0, _ => exact .rfl
    | 1, _ => exact .rfl
    | 2, _ => exact .rfl
    | 3, _ => exact .rfl
    | 4, _ => exact .rfl
    | 5, _ => exact .rfl
    | 6, _ => exact hdu
    | 7, _ => exact .rfl
    | 8, _ => exact .rfl
def crowK (T : PT) (k : Nat) : Nat → Nat → SV := fun q _ => .sb (decide (q < k ∧ T.f.toNat ≤ q ∧ q < T.f.toNat + T.n))
def wrowK (T : PT) (k : Nat) : Nat → Int := fun q => if q < k ∧ T.f.toNat ≤ q ∧ q < T.f.toNat + T.n then T.v (q - T.f.toNat) else 0
theorem ren_crowK (nx : Nat) (sg : List Nat) (T : PT) (k i j : Nat) : ren nx sg (crowK T k i j) = crowK T k i j := by simp only [crowK, ren, renF, id]
theorem renR_crowK (nx : Nat) (sg : List Nat) (T : PT) (k : Nat) : renR nx sg (crowK T k) = crowK T k := by funext i j; exact ren_crowK nx sg T k i j
set_option maxHeartbeats 8000000 in
theorem partsR_hcx {K : Kn} {H : Hi} {vo vc : Value} {V : Nat → Value} (h : HOK K H vo vc V) (hv : VHi H) (u : Int) (hu : 0 ≤ u) (hu2 : (u + 1) * H.unit ≤ H.blocks) (e : Nat) :
    HCX Try.prog K M0 30 [hA H vo vc, i64 u, i64 e] [] [] 0 (fun (z : Value × (Nat → Value) × (Nat → Value)) K' => Froz K' z.1 (lenE H u e) 9 (rprow H (PL H u (opsE H e)) (ptE H u e) V z.2.1 z.2.2) ∧
      ∀ q, q < lenE H u e → Froz K' (z.2.1 q) H.unit.toNat 1 (crow (ptE H u e q)) ∧ Froz K' (z.2.2 q) H.unit.toNat 1 (urow (wrow (ptE H u e q)))) (fun z => ⟨.val z.1, [], 0⟩) := by
  have hb2 := hv.b2
  have hu1 := hv.u1
  have hu8 := hv.u8
  have hm := h.m
  have hlo : 0 ≤ u * H.unit := Int.mul_nonneg hu (by omega)
  have hhi : (u + 1) * H.unit = u * H.unit + H.unit := by rw [Int.add_mul, Int.one_mul]
  have huu : u ≤ u * H.unit := by
    have := Int.mul_le_mul_of_nonneg_left hu1 hu
    omega
  refine hcx_of_run Try.func30 rfl (fun B hB hK hpin => ?_)
  have hF0 : Fz B K M0 B K := .refl hB hK
  refine goT hB [] 400 rfl (by first | exact conj_nil | simp [conj]) ?_
  refine run_loop ?_
  obtain ⟨Li, hLi⟩ : ∃ Li : Nat → List Nat, Li = fun i => PL H u (EI H e i) := ⟨_, rfl⟩
  have hL0 : Li 0 = [] := by rw [hLi]; rfl
  refine run_to hpin [0, 1] (nx' := 2) (rest' := []) (sl' := [(8, i64 ((0 : Nat) : Int)), (7, .sq 1 0 0 9 (Li 0).length .own), (3, .ptr 0 0), (2, i64 e), (1, i64 u)]) (hp' := [(1, .row 0 (Li 0).length (Li 0).length 9 (rprow H (Li 0) (fun q => ptOf H u (opsE H e) ((Li 0).getD q 0)) V (fun _ => vo) (fun _ => vo)) 85), (0, hC H vo vc)]) rfl rfl (by rw [hL0]; simp [conj, less_rfl, ren_rprow, renR_rprow]) ?_
  refine run_invX (ι := Nat × (Nat → Value) × (Nat → Value)) hF0 hpin (fun x K' => x.1 ≤ H.m ∧ ∀ q, q < (Li x.1).length → Froz K' (x.2.1 q) H.unit.toNat 1 (crow (ptOf H u (opsE H e) ((Li x.1).getD q 0))) ∧ Froz K' (x.2.2 q) H.unit.toNat 1 (urow (wrow (ptOf H u (opsE H e) ((Li x.1).getD q 0)))))
    (fun x => H.m - x.1) (fun x => [(8, i64 x.1), (7, .sq 1 0 0 9 (Li x.1).length .own), (3, .ptr 0 0), (2, i64 e), (1, i64 u)]) (fun _ => [])
    (fun x => [(1, .row 0 (Li x.1).length (Li x.1).length 9 (rprow H (Li x.1) (fun q => ptOf H u (opsE H e) ((Li x.1).getD q 0)) V x.2.1 x.2.2) 85), (0, hC H vo vc)]) (0, (fun _ => vo), fun _ => vo) ⟨Nat.zero_le _, fun q hq => by rw [hL0] at hq; exact absurd hq (Nat.not_lt_zero _)⟩ ?_
  rintro ⟨i, C, U⟩ B1 K1 hF1 hpin1 ⟨hi, hCU⟩ ih
  dsimp only at hi hCU ih ⊢
  have hB1 := hF1.ok
  have hK1 := hF1.le
  have hKK : ∀ b o, K b = some o → B1.D b = some o := fun b o q => hK1 b o (hF1.old b o q (fun h => h))
  refine goT hB1 [] 400 rfl (by clear ih; first | exact conj_nil | simp [conj]) ?_
  refine run_open hKK 18 h.o (by decide) rfl (fun o1 => ?_)
  refine goT hB1 [(30, 20)] 400 rfl (by clear ih; first | exact conj_nil | simp [conj]) ?_
  by_cases hin : i < H.m
  · have e0 : 0 + ((i : Nat) : Int).toNat = i := by omega
    refine run_tt (by simpa using hin) ?_
    refine run_close (.inl rfl) ?_
    refine goT hB1 [] 400 rfl (by clear ih; first | exact conj_nil | simp [conj]) ?_
    refine run_open hKK 24 h.o (by decide) rfl (fun o2 => ?_)
    refine goT hB1 [(30, 30)] 400 rfl (by clear ih; simp [conj, hin]) ?_
    rw [e0]
    refine run_close (.inl rfl) ?_
    have hLs : Li (i + 1) = if ep H (H.op i).b = e ∧ isP H u i = true then Li i ++ [i] else Li i := by
      rw [hLi]
      dsimp only
      by_cases q : ep H (H.op i).b = e
      · rw [EI_yes q]
        unfold PL
        rw [List.filter_append]
        cases q2 : isP H u i with
        | true => rw [if_pos ⟨q, rfl⟩]; simp [q2]
        | false => rw [if_neg (fun z => by cases z.2)]; simp [q2]
      · rw [EI_no q, if_neg (fun z => q z.1)]
    have skip : ¬ (ep H (H.op i).b = e ∧ isP H u i = true) → ∀ (B'' : Base) (K'' : Kn), Fz B K M0 B'' K'' → PinTo B'' 0 → (∀ q, q < (Li i).length → Froz K'' (C q) H.unit.toNat 1 (crow (ptOf H u (opsE H e) ((Li i).getD q 0))) ∧ Froz K'' (U q) H.unit.toNat 1 (urow (wrow (ptOf H u (opsE H e) ((Li i).getD q 0))))) →
        Run Try.prog [] B'' 30 (HEndX B.pin B K M0 [] (fun (z : Value × (Nat → Value) × (Nat → Value)) K' => Froz K' z.1 (lenE H u e) 9 (rprow H (PL H u (opsE H e)) (ptE H u e) V z.2.1 z.2.2) ∧
          ∀ q, q < lenE H u e → Froz K' (z.2.1 q) H.unit.toNat 1 (crow (ptE H u e q)) ∧ Froz K' (z.2.2 q) H.unit.toNat 1 (urow (wrow (ptE H u e q)))) (fun z => ⟨.val z.1, [], 0⟩)) _ := fun hno B'' K'' g1 g2 g3 => by
      have ih := ih (i + 1, C, U) B'' K'' g1 g2 ⟨by show i + 1 ≤ _; omega, by show ∀ q, q < (Li (i + 1)).length → _; rw [hLs, if_neg hno]; exact g3⟩ (by show H.m - (i + 1) < H.m - i; omega)
      dsimp only at ih
      rw [hLs, if_neg hno] at ih
      exact ih
    by_cases hk2 : (H.op i).k = 2
    · have hno : ¬ (ep H (H.op i).b = e ∧ isP H u i = true) := fun z => by have := z.2; unfold isP at this; simp [hk2] at this
      have ih := skip hno B1 K1 hF1 hpin1 hCU
      refine run_tt (by simpa using hk2) ?_
      refine goT hB1 [] 400 rfl (by clear ih skip; simp [conj, Fits_i64]; omega) ?_
      refine run_back ?_
      refine run_to hpin1 [0, 1] rfl rfl ?_ ih
      clear ih skip
      simp [conj, less_rfl, ren_rprow, renR_rprow]
    refine run_ff (by simpa using hk2) ?_
    refine goT hB1 [] 400 rfl (by clear ih skip; first | exact conj_nil | simp [conj]) ?_
    refine run_callCK (epochR_hck h (H.op i).b) named hB1 hKK [] rfl rfl rfl rfl (by first | exact conj_nil | simp [conj]) (by clear ih skip; simp [conj, less_rfl]) ?_
    rintro ⟨⟩ _
    refine ⟨show 0 ≤ 0 by omega, _, _, _, rfl, rfl, rfl, ?_⟩
    refine goT hB1 [(30, 37)] 400 rfl (by clear ih skip; first | exact conj_nil | simp [conj]) ?_
    by_cases hep : ep H (H.op i).b = e
    rotate_left
    · have hno : ¬ (ep H (H.op i).b = e ∧ isP H u i = true) := fun z => hep z.1
      have ih := skip hno B1 K1 hF1 hpin1 hCU
      refine run_tt (by simp; omega) ?_
      refine goT hB1 [] 400 rfl (by clear ih skip; simp [conj, Fits_i64]; omega) ?_
      refine run_back ?_
      refine run_to hpin1 [0, 1] rfl rfl ?_ ih
      clear ih skip
      simp [conj, less_rfl, ren_rprow, renR_rprow]
    refine run_ff (by simp; omega) ?_
    refine goT hB1 [] 400 rfl (by clear ih skip; simp [conj]; omega) ?_
    obtain ⟨T, hTe⟩ : ∃ T, T = ptOf H u (opsE H e) i := ⟨_, rfl⟩
    obtain ⟨N, hN⟩ : ∃ N, N = H.unit.toNat := ⟨_, rfl⟩
    have hNu : (N : Int) = H.unit := by omega
    have him := hin
    obtain ⟨⟨k1, k2, k3, k4⟩, k5, k6, k7, k8, k9, k10⟩ := hv.ops i him
    have hni := h.n i
    have hpA : pA H u i = max (u * H.unit) (H.op i).f := rfl
    have hpB : pB H u i = min ((u + 1) * H.unit) ((H.op i).f + (H.op i).n) := rfl
    have hTf : T.f = pA H u i - u * H.unit := by rw [hTe]; rfl
    have hTn : T.n = (pB H u i - pA H u i).toNat := by rw [hTe]; rfl
    have hTv : ∀ q, T.v q = (H.op i).v ((pA H u i - (H.op i).f).toNat + q) := fun q => by rw [hTe]; rfl
    obtain ⟨f10a, f10b, f10c⟩ := k10 hk2
    rw [← hN]
    refine run_to hpin1 [0, 1, 4, 8, 11, 13] (nx' := 6) (rest' := []) (sl' := [(12, i64 ((0 : Nat) : Int)), (11, .sb (decide (T.f.toNat < 0 ∧ 0 < T.n))), (10, .ptr 5 0), (9, .ptr 2 0), (8, i64 i), (7, .sq 1 0 0 9 (Li i).length .own), (3, .ptr 0 0), (2, i64 e), (1, i64 u)])
      (hp' := [(5, .cells [i64 (H.op i).k, i64 (H.op i).f, .val (V i), i64 (H.op i).b, i64 (H.op i).e, .sb (H.op i).fo, .ff, .sq 3 0 0 1 N .own, .sq 4 0 0 1 N .own] 85), (4, .row 0 N N 1 (urow (wrowK T 0)) 3), (3, .row 0 N N 1 (crowK T 0) 4), (2, .cells [i64 (H.op i).k, i64 (H.op i).f, .val (V i), i64 (H.op i).b, i64 (H.op i).e, .sb (H.op i).fo] 39), (1, .row 0 (Li i).length (Li i).length 9 (rprow H (Li i) (fun q => ptOf H u (opsE H e) ((Li i).getD q 0)) V C U) 85), (0, hC H vo vc)]) rfl rfl ?_ ?_
    · clear ih skip
      simp [conj, less_rfl, ren_rprow, renR_rprow]
      refine ⟨fun q _ => Less.of ?_, fun q _ => ?_⟩
      · simp [urow, wrowK, SV.cells, ren, renF]
      · have hc : crowK T 0 q 0 = .sb false := by simp [crowK]
        rw [hc]
        exact fun _ _ h => h
    refine run_openB hKK 2 2 (h.v i him) (by decide) rfl rfl (fun _ => rfl) (fun _ => rfl) (fun o3 => ?_)
    refine run_loop ?_
    refine run_inv (ι := Nat) hpin1 (fun k => k ≤ N) (fun k => N - k) (fun k => [(12, i64 k), (11, .sb (decide (T.f.toNat < k ∧ 0 < T.n))), (10, .ptr 5 0), (9, .ptr 2 0), (8, i64 i), (7, .sq 1 0 0 9 (Li i).length .own), (3, .ptr 0 0), (2, i64 e), (1, i64 u)]) (fun _ => [])
      (fun k => [(5, .cells [i64 (H.op i).k, i64 (H.op i).f, .val (V i), i64 (H.op i).b, i64 (H.op i).e, .sb (H.op i).fo, .ff, .sq 3 0 0 1 N .own, .sq 4 0 0 1 N .own] 85), (4, .row 0 N N 1 (urow (wrowK T k)) 3), (3, .row 0 N N 1 (crowK T k) 4), (2, .cells [i64 (H.op i).k, i64 (H.op i).f, .sq 6 o3 0 1 (H.op i).n .no, i64 (H.op i).b, i64 (H.op i).e, .sb (H.op i).fo] 39), (1, .row 0 (Li i).length (Li i).length 9 (rprow H (Li i) (fun q => ptOf H u (opsE H e) ((Li i).getD q 0)) V C U) 85), (0, hC H vo vc)]) 7 0 (Nat.zero_le _) [0, 1, 2, 3, 4, 5, 6] rfl rfl (by clear ih skip; simp [conj, less_rfl, ren_rprow, renR_rprow, ren_urow, renR_urow, ren_crowK, renR_crowK]) ?_
    rintro k hkN ihk
    refine goT hB1 [(30, 50)] 400 rfl (by clear ih skip ihk; first | exact conj_nil | simp [conj]) ?_
    by_cases hkl : k < N
    · refine run_tt (by simp; omega) ?_
      refine goT hB1 [(30, 63)] 400 rfl (by clear ih skip ihk; simp [conj, Fits_i64]; omega) ?_
      have e1 : 0 + ((k : Nat) : Int).toNat = k := by omega
      have ihk := ihk (k + 1) (by omega) (by omega)
      have hno : ¬ (T.f.toNat ≤ k ∧ k < T.f.toNat + T.n) → crowK T (k + 1) = crowK T k ∧ wrowK T (k + 1) = wrowK T k ∧ decide (T.f.toNat < k + 1 ∧ 0 < T.n) = decide (T.f.toNat < k ∧ 0 < T.n) := fun hc => by
        refine ⟨?_, ?_, ?_⟩
        · funext q c
          unfold crowK
          congr 1
          apply decide_eq_decide.2
          constructor
          · intro z; refine ⟨?_, z.2⟩; rcases Nat.eq_or_lt_of_le (Nat.le_of_lt_succ z.1) with g | g
            · exact absurd (g ▸ z.2) hc
            · exact g
          · intro z; exact ⟨by omega, z.2⟩
        · funext q
          unfold wrowK
          by_cases z : q < k ∧ T.f.toNat ≤ q ∧ q < T.f.toNat + T.n
          · rw [if_pos z, if_pos ⟨by omega, z.2⟩]
          · rw [if_neg z, if_neg]
            intro y
            refine z ⟨?_, y.2⟩
            rcases Nat.eq_or_lt_of_le (Nat.le_of_lt_succ y.1) with g | g
            · exact absurd (g ▸ y.2) hc
            · exact g
        · apply decide_eq_decide.2
          omega
      by_cases ha : 0 ≤ u * H.unit + k - (H.op i).f
      · refine run_tt (by simpa using ha) ?_
        refine goT hB1 [(30, 69)] 400 rfl (by clear ih skip ihk; simp [conj, Fits_i64]) ?_
        by_cases hb : u * H.unit + k - (H.op i).f < (H.op i).n
        · have hcov : T.f.toNat ≤ k ∧ k < T.f.toNat + T.n := by omega
          refine run_tt (by simpa using hb) ?_
          refine goT hB1 [] 400 rfl (by clear ih skip ihk; simp [conj, Fits_i64]; omega) ?_
          have hval : (H.op i).v (0 + (u * H.unit + k - (H.op i).f).toNat) = T.v (k - T.f.toNat) := by rw [hTv]; congr 1; omega
          rw [e1, hval]
          rw [show decide (T.f.toNat < k + 1 ∧ 0 < T.n) = true by simp; omega] at ihk
          refine run_back ?_
          refine run_to hpin1 [0, 1, 2, 3, 4, 5, 6] rfl rfl ?_ ihk
          clear ih skip ihk
          simp [conj, less_rfl, ren_rprow, renR_rprow, ren_urow, renR_urow, ren_crowK, renR_crowK]
          refine ⟨fun a _ => ?_, fun a _ => ?_⟩
          · refine upd_lessG _ _ k k _ rfl rfl (Less.of ?_) (fun a ha => ?_) a
            · unfold urow wrowK; rw [if_pos ⟨by omega, hcov⟩]
            · unfold urow wrowK
              by_cases z : a < k ∧ T.f.toNat ≤ a ∧ a < T.f.toNat + T.n
              · rw [if_pos z, if_pos ⟨by omega, z.2⟩]
              · rw [if_neg z, if_neg (fun y => z ⟨by have := y.1; omega, y.2⟩)]
          · refine upd_lessG _ _ k k _ rfl rfl ?_ (fun a ha => ?_) a
            · have : crowK T (k + 1) k 0 = .sb true := by unfold crowK; rw [decide_eq_true ⟨by omega, hcov⟩]
              rw [this]
              exact fun _ _ h => h
            · unfold crowK
              congr 1
              apply decide_eq_decide.2
              omega
        · obtain ⟨n1, n2, n3⟩ := hno (by omega)
          rw [n1, n2, n3] at ihk
          refine run_ff (by simpa using hb) ?_
          refine goT hB1 [] 400 rfl (by clear ih skip ihk; simp [conj, Fits_i64]; omega) ?_
          refine run_back ?_
          refine run_to hpin1 [0, 1, 2, 3, 4, 5, 6] rfl rfl ?_ ihk
          clear ih skip ihk
          simp [conj, less_rfl, ren_rprow, renR_rprow, ren_urow, renR_urow, ren_crowK, renR_crowK]
      · obtain ⟨n1, n2, n3⟩ := hno (by omega)
        rw [n1, n2, n3] at ihk
        refine run_ff (by simpa using ha) ?_
        refine goT hB1 [] 400 rfl (by clear ih skip ihk; simp [conj, Fits_i64]; omega) ?_
        refine run_back ?_
        refine run_to hpin1 [0, 1, 2, 3, 4, 5, 6] rfl rfl ?_ ihk
        clear ih skip ihk
        simp [conj, less_rfl, ren_rprow, renR_rprow, ren_urow, renR_urow, ren_crowK, renR_crowK]
    · clear ihk
      have : k = N := by omega
      subst this
      refine run_ff (by simp; omega) ?_
      refine goT hB1 [(30, 86)] 400 rfl (by clear ih skip; first | exact conj_nil | simp [conj]) ?_
      have hTw : T.w = decide ((H.op i).k = 1) := by rw [hTe]; rfl
      have hTd : T.d = decide (0 ≤ (H.op i).e) := by rw [hTe]; rfl
      have hTdu : T.du = (decide ((H.op i).k = 1) && decide (0 ≤ (H.op i).e) && ((H.op i).fo || anyFl H (H.op i).e (opsE H e))) := by rw [hTe]; rfl
      have hsome : decide (T.f.toNat < k ∧ 0 < T.n) = isP H u i := by
        have : isP H u i = (!decide ((H.op i).k = 2) && decide (pA H u i < pB H u i)) := rfl
        rw [this, decide_eq_false hk2, Bool.not_false, Bool.true_and]
        apply decide_eq_decide.2
        omega
      rw [hsome]
      apply run_share (P := Try.prog) (f := 30) (ro := [(6, .row o3 (H.op i).n (H.op i).n 1 (urow (H.op i).v) anyTy)]) (B := B1) (fun N TD => ⟨⟨fid 30, N, [(131, .sb (isP H u i)), (10, .ptr 5 0), (8, i64 i), (7, .sq 1 0 0 9 (Li i).length .own), (3, .ptr 0 0), (2, i64 e), (1, i64 u)], TD⟩, [], [(5, .cells [i64 (H.op i).k, i64 (H.op i).f, .val (V i), i64 (H.op i).b, i64 (H.op i).e, .sb (H.op i).fo, .sb T.du, .sq 3 0 0 1 k .own, .sq 4 0 0 1 k .own] 85), (4, .row 0 k k 1 (urow (wrowK T k)) 3), (3, .row 0 k k 1 (crowK T k) 4), (1, .row 0 (Li i).length (Li i).length 9 (rprow H (Li i) (fun q => ptOf H u (opsE H e) ((Li i).getD q 0)) V C U) 85), (0, hC H vo vc)], 7⟩)
      · intro next
        by_cases hw1 : (H.op i).k = 1
        · refine run_tt (by simpa using hw1) ?_
          refine goT hB1 [(30, 90)] 400 rfl (by clear ih skip next; first | exact conj_nil | simp [conj]) ?_
          by_cases hd1 : 0 ≤ (H.op i).e
          · refine run_tt (by simpa using hd1) ?_
            refine goT hB1 [(30, 93)] 400 rfl (by clear ih skip next; first | exact conj_nil | simp [conj]) ?_
            refine run_to hpin1 [0, 1, 2, 3, 4, 5, 6] (nx' := 7) (rest' := []) (sl' := [(92, .ptr 2 5), (93, .sb (H.op i).fo), (11, .sb (isP H u i)), (10, .ptr 5 0), (9, .ptr 2 0), (8, i64 i), (7, .sq 1 0 0 9 (Li i).length .own), (3, .ptr 0 0), (2, i64 e), (1, i64 u)])
              (hp' := [(5, .cells [i64 (H.op i).k, i64 (H.op i).f, .val (V i), i64 (H.op i).b, i64 (H.op i).e, .sb (H.op i).fo, .ff, .sq 3 0 0 1 k .own, .sq 4 0 0 1 k .own] 85), (4, .row 0 k k 1 (urow (wrowK T k)) 3), (3, .row 0 k k 1 (crowK T k) 4), (2, .cells [i64 (H.op i).k, i64 (H.op i).f, .sq 6 o3 0 1 (H.op i).n .no, i64 (H.op i).b, i64 (H.op i).e, .sb (H.op i).fo] 39), (1, .row 0 (Li i).length (Li i).length 9 (rprow H (Li i) (fun q => ptOf H u (opsE H e) ((Li i).getD q 0)) V C U) 85), (0, hC H vo vc)]) rfl rfl (by clear ih skip next; simp [conj, less_rfl, ren_rprow, renR_rprow, ren_urow, renR_urow, ren_crowK, renR_crowK]) ?_
            refine goT hB1 [] 400 rfl (by clear ih skip next; first | exact conj_nil | simp [conj]) ?_
            refine run_loop ?_
            refine run_inv (ι := Nat) hpin1 (fun j => j ≤ H.m) (fun j => H.m - j) (fun j => [(14, i64 j), (11, .sb (isP H u i)), (10, .ptr 5 0), (9, .ptr 2 0), (8, i64 i), (7, .sq 1 0 0 9 (Li i).length .own), (3, .ptr 0 0), (2, i64 e), (1, i64 u)]) (fun _ => [])
              (fun j => [(5, .cells [i64 (H.op i).k, i64 (H.op i).f, .val (V i), i64 (H.op i).b, i64 (H.op i).e, .sb (H.op i).fo, .sb ((H.op i).fo || anyFl H (H.op i).e (EI H e j)), .sq 3 0 0 1 k .own, .sq 4 0 0 1 k .own] 85), (4, .row 0 k k 1 (urow (wrowK T k)) 3), (3, .row 0 k k 1 (crowK T k) 4), (2, .cells [i64 (H.op i).k, i64 (H.op i).f, .sq 6 o3 0 1 (H.op i).n .no, i64 (H.op i).b, i64 (H.op i).e, .sb (H.op i).fo] 39), (1, .row 0 (Li i).length (Li i).length 9 (rprow H (Li i) (fun q => ptOf H u (opsE H e) ((Li i).getD q 0)) V C U) 85), (0, hC H vo vc)]) 7 0 (Nat.zero_le _) [0, 1, 2, 3, 4, 5, 6] rfl rfl (by clear ih skip next; simp [conj, less_rfl, ren_rprow, renR_rprow, ren_urow, renR_urow, ren_crowK, renR_crowK, EI, anyFl]) ?_
            rintro j hjm ihj
            refine goT hB1 [] 400 rfl (by clear ih skip next ihj; first | exact conj_nil | simp [conj]) ?_
            refine run_open hKK 97 h.o (by decide) rfl (fun o4 => ?_)
            refine goT hB1 [(30, 99)] 400 rfl (by clear ih skip next ihj; first | exact conj_nil | simp [conj]) ?_
            by_cases hjl : j < H.m
            · have ihj := ihj (j + 1) (by omega) (by omega)
              have hstep : anyFl H (H.op i).e (EI H e (j + 1)) = (anyFl H (H.op i).e (EI H e j) || (decide (ep H (H.op j).b = e) && decide (Fl H (H.op i).e j))) := by
                by_cases q : ep H (H.op j).b = e
                · rw [EI_yes q]; unfold anyFl; rw [List.any_append, decide_eq_true q]; simp
                · rw [EI_no q, decide_eq_false q]; simp
              have hno : ¬ (ep H (H.op j).b = e ∧ Fl H (H.op i).e j) → ((H.op i).fo || anyFl H (H.op i).e (EI H e (j + 1))) = ((H.op i).fo || anyFl H (H.op i).e (EI H e j)) := fun z => by
                rw [hstep]
                by_cases q : ep H (H.op j).b = e
                · rw [decide_eq_true q, decide_eq_false (fun y => z ⟨q, y⟩)]; simp
                · rw [decide_eq_false q]; simp
              have e2 : 0 + ((j : Nat) : Int).toNat = j := by omega
              refine run_tt (by simpa using hjl) ?_
              refine run_close (.inl rfl) ?_
              refine goT hB1 [] 400 rfl (by clear ih skip next ihj; first | exact conj_nil | simp [conj]) ?_
              refine run_open hKK 103 h.o (by decide) rfl (fun o5 => ?_)
              refine goT hB1 [(30, 109)] 400 rfl (by clear ih skip next ihj; simp [conj, hjl]) ?_
              rw [e2]
              refine run_close (.inl rfl) ?_
              by_cases c1 : (H.op j).k = 2
              · refine run_tt (by simpa using c1) ?_
                refine goT hB1 [(30, 113)] 400 rfl (by clear ih skip next ihj; first | exact conj_nil | simp [conj]) ?_
                by_cases c2 : 0 ≤ (H.op j).e
                · refine run_tt (by simpa using c2) ?_
                  refine goT hB1 [(30, 120)] 400 rfl (by clear ih skip next ihj; first | exact conj_nil | simp [conj]) ?_
                  by_cases c3 : (H.op i).e < (H.op j).b
                  · refine run_tt (by simpa using c3) ?_
                    refine goT hB1 [] 400 rfl (by clear ih skip next ihj; first | exact conj_nil | simp [conj]) ?_
                    refine run_callCK (epochR_hck h (H.op j).b) named hB1 hKK [] rfl rfl rfl rfl (by first | exact conj_nil | simp [conj]) (by clear ih skip next ihj; simp [conj, less_rfl]) ?_
                    rintro ⟨⟩ _
                    refine ⟨show 0 ≤ 0 by omega, _, _, _, rfl, rfl, rfl, ?_⟩
                    refine goT hB1 [(30, 128)] 400 rfl (by clear ih skip next ihj; first | exact conj_nil | simp [conj]) ?_
                    by_cases c4 : ep H (H.op j).b = e
                    · refine run_tt (by simp; omega) ?_
                      refine goT hB1 [] 400 rfl (by clear ih skip next ihj; simp [conj, Fits_i64]; omega) ?_
                      rw [show ((H.op i).fo || anyFl H (H.op i).e (EI H e (j + 1))) = true by rw [hstep, decide_eq_true c4, decide_eq_true (show Fl H (H.op i).e j from ⟨c1, c2, c3⟩)]; simp] at ihj
                      refine run_back ?_
                      refine run_to hpin1 [0, 1, 2, 3, 4, 5, 6] rfl rfl ?_ ihj
                      clear ih skip next ihj
                      simp [conj, less_rfl, ren_rprow, renR_rprow, ren_urow, renR_urow, ren_crowK, renR_crowK]
                    · refine run_ff (by simp; omega) ?_
                      refine goT hB1 [] 400 rfl (by clear ih skip next ihj; simp [conj, Fits_i64]; omega) ?_
                      rw [hno (fun z => c4 z.1)] at ihj
                      refine run_back ?_
                      refine run_to hpin1 [0, 1, 2, 3, 4, 5, 6] rfl rfl ?_ ihj
                      clear ih skip next ihj
                      simp [conj, less_rfl, ren_rprow, renR_rprow, ren_urow, renR_urow, ren_crowK, renR_crowK]
                  · refine run_ff (by simpa using c3) ?_
                    refine goT hB1 [] 400 rfl (by clear ih skip next ihj; simp [conj, Fits_i64]; omega) ?_
                    rw [hno (fun z => c3 z.2.2.2)] at ihj
                    refine run_back ?_
                    refine run_to hpin1 [0, 1, 2, 3, 4, 5, 6] rfl rfl ?_ ihj
                    clear ih skip next ihj
                    simp [conj, less_rfl, ren_rprow, renR_rprow, ren_urow, renR_urow, ren_crowK, renR_crowK]
                · refine run_ff (by simpa using c2) ?_
                  refine goT hB1 [] 400 rfl (by clear ih skip next ihj; simp [conj, Fits_i64]; omega) ?_
                  rw [hno (fun z => c2 z.2.2.1)] at ihj
                  refine run_back ?_
                  refine run_to hpin1 [0, 1, 2, 3, 4, 5, 6] rfl rfl ?_ ihj
                  clear ih skip next ihj
                  simp [conj, less_rfl, ren_rprow, renR_rprow, ren_urow, renR_urow, ren_crowK, renR_crowK]
              · refine run_ff (by simpa using c1) ?_
                refine goT hB1 [] 400 rfl (by clear ih skip next ihj; simp [conj, Fits_i64]; omega) ?_
                rw [hno (fun z => c1 z.2.1)] at ihj
                refine run_back ?_
                refine run_to hpin1 [0, 1, 2, 3, 4, 5, 6] rfl rfl ?_ ihj
                clear ih skip next ihj
                simp [conj, less_rfl, ren_rprow, renR_rprow, ren_urow, renR_urow, ren_crowK, renR_crowK]
            · clear ihj
              have : j = H.m := by omega
              subst this
              refine run_ff (by simp) ?_
              refine goT hB1 [(30, 131)] 400 rfl (by clear ih skip next; first | exact conj_nil | simp [conj]) ?_
              refine run_close (.inl rfl) ?_
              have : T.du = ((H.op i).fo || anyFl H (H.op i).e (EI H e H.m)) := by rw [hTdu, decide_eq_true hw1, decide_eq_true hd1]; rfl
              rw [this] at next
              refine run_to hpin1 [0, 1, 2, 3, 4, 5, 6] rfl rfl ?_ next
              clear ih skip next
              simp [conj, less_rfl, ren_rprow, renR_rprow, ren_urow, renR_urow, ren_crowK, renR_crowK]
          · refine run_ff (by simpa using hd1) ?_
            refine goT hB1 [(30, 131)] 400 rfl (by clear ih skip next; first | exact conj_nil | simp [conj]) ?_
            have : T.du = false := by rw [hTdu, decide_eq_false hd1, Bool.and_false, Bool.false_and]
            rw [this] at next
            refine run_to hpin1 [0, 1, 2, 3, 4, 5, 6] rfl rfl ?_ next
            clear ih skip next
            simp [conj, less_rfl, ren_rprow, renR_rprow, ren_urow, renR_urow, ren_crowK, renR_crowK]
        · refine run_ff (by simpa using hw1) ?_
          refine goT hB1 [(30, 131)] 400 rfl (by clear ih skip next; first | exact conj_nil | simp [conj]) ?_
          have : T.du = false := by rw [hTdu, decide_eq_false hw1, Bool.false_and, Bool.false_and]
          rw [this] at next
          refine run_to hpin1 [0, 1, 2, 3, 4, 5, 6] rfl rfl ?_ next
          clear ih skip next
          simp [conj, less_rfl, ren_rprow, renR_rprow, ren_urow, renR_urow, ren_crowK, renR_crowK]
      cases hp : isP H u i with
      | false =>
        have ih := skip (fun z => by rw [hp] at z; cases z.2) B1 K1 hF1 hpin1 hCU
        rw [← hN] at ih
        refine run_ff rfl ?_
        refine goT hB1 [] 400 rfl (by clear ih skip; simp [conj, Fits_i64]; omega) ?_
        refine run_back ?_
        refine run_close (.inl rfl) ?_
        refine run_to hpin1 [0, 1] rfl rfl ?_ ih
        clear ih skip
        simp [conj, less_rfl, ren_rprow, renR_rprow]
      | true =>
        refine run_tt rfl ?_
        refine run_freezeB hB1 hK1 5 7 (L := 3) (off := 0) (sz := 1) (m := k) (m' := k) (cap := k) (ap := .own) (g := crowK T k) rfl rfl rfl rfl (Nat.le_refl _) (fun _ _ _ _ => rfl) rfl (fun _ => rfl) (fun _ => rfl) (fun cv B2 K2 hcv hF2 hp2 => ?_)
        refine run_freezeB hF2.ok hF2.le 5 8 (L := 4) (off := 0) (sz := 1) (m := k) (m' := k) (cap := k) (ap := .own) (g := urow (wrowK T k)) rfl rfl rfl rfl (Nat.le_refl _) (fun _ _ _ _ => rfl) rfl (fun _ => rfl) (fun _ => rfl) (fun wv B3 K3 hwv hF3 hp3 => ?_)
        have hF3' := (hF1.trans0 hF2 hK fun _ h => h.elim).trans0 hF3 hK fun _ h => h.elim
        have hpin3 := (hpin1.fz hF2 hp2).fz hF3 hp3
        have hL' : Li (i + 1) = Li i ++ [i] := by rw [hLs, if_pos ⟨hep, hp⟩]
        have hlen : (Li i).length ≤ i := by
          rw [hLi]
          exact Nat.le_trans (List.length_filter_le _ _) (EI_len H e i)
        have hcv2 : Froz K3 cv k 1 (crow T) := (hcv.congr fun a c ha _ => by
          unfold crowK crow
          congr 1
          apply decide_eq_decide.2
          exact ⟨fun z => ⟨ha, z⟩, fun z => z.2⟩).fz hF3
        have hwv2 : Froz K3 wv k 1 (urow (wrow T)) := hwv.congr fun a c ha _ => by
          unfold urow wrowK wrow
          congr 1
          by_cases z : T.f.toNat ≤ a ∧ a < T.f.toNat + T.n
          · rw [if_pos z, if_pos ⟨ha, z⟩]
          · rw [if_neg z, if_neg (fun y => z y.2)]
        have ih := ih (i + 1, (fun q => if q = (Li i).length then cv else C q), fun q => if q = (Li i).length then wv else U q) B3 K3 hF3' hpin3 ⟨by show i + 1 ≤ _; omega, by
          show ∀ q, q < (Li (i + 1)).length → _
          rw [hL', List.length_append, List.length_singleton]
          intro q hq
          dsimp only
          by_cases hqe : q = (Li i).length
          · rw [if_pos hqe, if_pos hqe, hqe]
            have e3 : (Li i ++ [i]).getD (Li i).length 0 = i := by simp
            rw [e3, ← hTe, ← hN]
            exact ⟨hcv2, hwv2⟩
          · rw [if_neg hqe, if_neg hqe]
            have hlt : q < (Li i).length := by omega
            have e3 : (Li i ++ [i]).getD q 0 = (Li i).getD q 0 := by rw [List.getD_eq_getElem?_getD, List.getElem?_append_left hlt, ← List.getD_eq_getElem?_getD]
            rw [e3]
            exact ⟨((hCU q hlt).1.fz hF2).fz hF3, ((hCU q hlt).2.fz hF2).fz hF3⟩⟩ (by show H.m - (i + 1) < H.m - i; omega)
        dsimp only at ih
        rw [hL', List.length_append, List.length_singleton, ← hN] at ih
        refine goT hF3.ok [] 400 rfl (by clear ih skip; simp [conj, Fits_i64]; omega) ?_
        refine run_back ?_
        refine run_close (.inl rfl) ?_
        have happ := app_rprow H u (opsE H e) (Li i) i V C U cv wv (.sb T.du) (by rw [← hTe]; exact .rfl)
        refine run_to hpin3 [0, 8] rfl rfl ?_ ih
        clear ih skip
        simp [conj, less_rfl, ren_rprow, renR_rprow]
        exact fun a c ha hc => happ a c ha hc
  · clear ih
    have : i = H.m := by omega
    subst this
    refine run_ff (by simp) ?_
    refine goT hB1 [] 400 rfl (by first | exact conj_nil | simp [conj]) ?_
    refine run_close (.inl rfl) ?_
    refine run_freeze hB1 hK1 6 rfl rfl (Nat.le_refl _) (fun a c _ _ => rprow_closed _ _ _ _ _ _ a c) rfl (fun w B5 K5 hv5 hF5 hp5 => ?_)
    have hLm : Li H.m = PL H u (opsE H e) := by rw [hLi]; rfl
    rw [hLm] at hv5 hCU
    refine run_retF (hF1.trans0 hF5 hK fun _ h => h.elim) (hpin1.fz hF5 hp5) (w, C, U) ⟨hv5, fun q hq => ⟨(hCU q hq).1.fz hF5, (hCU q hq).2.fz hF5⟩⟩ [] rfl rfl (by first | exact conj_nil | simp [conj]) rfl ?_
    simp [conj, less_rfl]
end Sx
end
section
/- Chapter 47's reference: search. Conditions: as each theorem says. -/
namespace Sx
open Go Go.Proofs
set_option maxRecDepth 100000
set_option pp.deepTerms true
set_option pp.maxSteps 10000000
structure RP (K : Kn) (H : Hi) (L : List Nat) (P : Nat → PT) (V C U : Nat → Value) (N : Nat) : Prop where
  n : L.length ≤ 12
  w : ∀ q, q < L.length → (P q).w = decide ((H.op (L.getD q 0)).k = 1)
  k01 : ∀ q, q < L.length → (H.op (L.getD q 0)).k = 0 ∨ (H.op (L.getD q 0)).k = 1
  d : ∀ q, q < L.length → (P q).d = decide (0 ≤ (H.op (L.getD q 0)).e)
  b : ∀ q, q < L.length → (P q).b = (H.op (L.getD q 0)).b
  e : ∀ q, q < L.length → (P q).e = (H.op (L.getD q 0)).e
  f : ∀ q, q < L.length → (P q).f.toNat + (P q).n ≤ N
  C : ∀ q, q < L.length → Froz K (C q) N 1 (crow (P q))
  U : ∀ q, q < L.length → Froz K (U q) N 1 (urow (wrow (P q)))
theorem RP.mono {K K' : Kn} {H : Hi} {L : List Nat} {P : Nat → PT} {V C U : Nat → Value} {N : Nat} (h : RP K H L P V C U N) (g : ∀ b o, K b = some o → K' b = some o) : RP K' H L P V C U N :=
  ⟨h.n, h.w, h.k01, h.d, h.b, h.e, h.f, fun q hq => (h.C q hq).mono g, fun q hq => (h.U q hq).mono g⟩
def tbrow (A : Nat) : Nat → Nat → SV := fun k _ => .sb (A.testBit k)
def LIM : Nat := 5864062014805
end Sx
end
section
/- Chapter 47's reference: unique. Conditions: as each theorem says. -/
namespace Sx
open Go Go.Proofs
set_option maxRecDepth 100000
set_option pp.deepTerms true
set_option pp.maxSteps 10000000
theorem ltV_trans {N : Nat} {a b c : List Int} (h : ltV N a b) (g : ltV N b c) : ltV N a c := cmpR_trans _ _ _ N N h g
theorem ltV_irr {N : Nat} {a : List Int} : ¬ ltV N a a := by unfold ltV; rw [cmpR_self]; omega
theorem VL.take {K : Kn} {N : Nat} {X : List (List Int)} {W : Nat → Value} (h : VL K N X W) (k : Nat) : VL K N (X.take k) W := by
  intro i hi
  rw [List.length_take] at hi
  have e : (X.take k).getD i [] = X.getD i [] := by rw [List.getD_eq_getElem?_getD, List.getElem?_take_of_lt (by omega), ← List.getD_eq_getElem?_getD]
  rw [e]; exact h i (by omega)
theorem VL.drop {K : Kn} {N : Nat} {X : List (List Int)} {W : Nat → Value} (h : VL K N X W) (k : Nat) : VL K N (X.drop k) (fun j => W (k + j)) := by
  intro i hi
  rw [List.length_drop] at hi
  have e : (X.drop k).getD i [] = X.getD (k + i) [] := by rw [List.getD_eq_getElem?_getD, List.getElem?_drop, ← List.getD_eq_getElem?_getD]
  rw [e]; exact h _ (by omega)
end Sx
end
