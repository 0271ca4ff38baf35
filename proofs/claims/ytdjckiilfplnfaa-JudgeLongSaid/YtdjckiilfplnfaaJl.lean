/- Package judge: the vectors after an epoch. Conditions: as each theorem says. -/
import Derived.Test.YtdjckiilfplnfaaJk
import Derived.Test.YtdjckiilfplnfaaEngX5
set_option linter.unusedSimpArgs false
set_option linter.unusedVariables false
namespace Sx
open Go Go.Proofs
set_option maxRecDepth 100000
set_option pp.deepTerms true
set_option pp.maxSteps 10000000
/-- The numbers below n that p holds of, as bits. -/
def maskN (p : Nat → Bool) : Nat → Nat
  | 0 => 0
  | i + 1 => bif p i then maskN p i ||| 2 ^ i else maskN p i
theorem maskN_lt (p : Nat → Bool) : ∀ n, n ≤ 16 → maskN p n < 65536
  | 0, _ => by unfold maskN; decide
  | n + 1, h => by
    have ih := maskN_lt p n (by omega)
    unfold maskN
    cases p n with
    | true => exact or_lt ih (Nat.pow_lt_pow_right (n := 16) (by decide) (by omega))
    | false => exact ih
theorem maskN_bit (p : Nat → Bool) (j : Nat) : ∀ n, (maskN p n).testBit j = (decide (j < n) && p j)
  | 0 => by simp [maskN]
  | n + 1 => by
    have ih := maskN_bit p j n
    unfold maskN
    cases hp : p n with
    | true =>
      rw [cond_true, Nat.testBit_or, ih]
      by_cases hj : j = n
      · subst hj; rw [Nat.testBit_two_pow_self, hp]; simp
      · rw [Nat.testBit_two_pow_of_ne (fun e => hj e.symm), Bool.or_false]
        congr 1
        exact decide_eq_decide.2 (by omega)
    | false =>
      rw [cond_false, ih]
      by_cases hj : j = n
      · subst hj; rw [hp]; simp
      · congr 1
        exact decide_eq_decide.2 (by omega)
def pbf (P : Nat → PT) (i : Nat) : Nat → Bool := fun k => (P k).d && decide ((P k).e < (P i).b)
def sqOf (P : Nat → PT) (n : Nat) (last : Bool) : SQ := ⟨n, P, maskN (fun i => (P i).d) n, maskN (fun i => (P i).du) n, fun i => maskN (pbf P i) n, last⟩
def bfA (P : Nat → PT) (n i k : Nat) : Nat → Nat := fun j => if j < i then maskN (pbf P j) n else if j = i then maskN (pbf P i) k else 0
def brow (f : Nat → Nat) : Nat → Nat → SV := fun i _ => u16 (f i)
theorem ren_brow (nx : Nat) (sg : List Nat) (f : Nat → Nat) (i k : Nat) : ren nx sg (brow f i k) = brow f i k := by simp only [brow, ren, renF, id]
theorem renR_brow (nx : Nat) (sg : List Nat) (f : Nat → Nat) : renR nx sg (brow f) = brow f := by funext i k; exact ren_brow nx sg f i k
theorem upd_lessB (f g : Nat → Nat) (j x : Nat) (h : f j = x) (hne : ∀ a, a ≠ j → f a = g a) (a : Nat) : Less (brow f a 0) (updF (brow g) j 0 (SV.int .u16 (x : Int)).cells a 0) := by
  refine Less.of ?_
  unfold updF brow
  by_cases e : a = j
  · subst e; simp [SV.cells, h]
  · simp [e, hne a e]
set_option maxHeartbeats 8000000 in
theorem after_hcx {K : Kn} (P : Nat → PT) (n : Nat) (lv : Value) (V : Nat → Value) (last : Bool) (hn : n ≤ 12) (hl : Froz K lv n 7 (prow P V)) (hv : ∀ i, i < n → Froz K (V i) (P i).n 1 (urow (P i).v)) (h0 : ∀ i, i < n → 0 ≤ (P i).f) (h8 : ∀ i, i < n → (P i).f + (P i).n ≤ 8)
    (hfit : ∀ i, i < n → ∀ k, k < (P i).n → Fits .i64 ((P i).v k)) (l : List Int) (hok : okV l) :
    HCX Try.prog K M0 40 [.val lv, svV l, .sb last] [] [] 0 (fun (_ : Unit) _ => True) (fun _ => ⟨.mp 0, [(0, .obj (.map (arrM encV (srch (sqOf P n last) 13 (0, l) ([], [])).2.2) (srch (sqOf P n last) 13 (0, l) ([], [])).2.2.length))], 1⟩) := by
  have h8l := hok.1
  match l, h8l with
  | [a0, a1, a2, a3, a4, a5, a6, a7], _ =>
  show HCX Try.prog K M0 40 [.val lv, .agg [i64 a0, i64 a1, i64 a2, i64 a3, i64 a4, i64 a5, i64 a6, i64 a7], .sb last] [] [] 0 _ _
  refine hcx_of_run Try.func40 rfl (fun B hB hK hpin => ?_)
  refine goT hB [(40, 5)] 400 rfl (by first | exact conj_nil | simp [conj]) ?_
  refine run_open hK 17 hl (by decide) rfl (fun o1 => ?_)
  refine goT hB [] 400 rfl (by simp [conj, Fits_i64]; omega) ?_
  refine run_close (.inl rfl) ?_
  refine run_open hK 20 hl (by decide) rfl (fun o2 => ?_)
  refine goT hB [] 400 rfl (by first | exact conj_nil | simp [conj]) ?_
  refine run_loop ?_
  refine run_inv (ι := Nat) hpin (fun i => i ≤ n) (fun i => n - i)
    (fun i => [(22, i64 i), (21, i64 n), (20, .sq 8 o2 0 7 n .no), (9, .ptr 7 0), (8, .ptr 4 0), (7, .ptr 3 0), (5, .ptr 2 0), (4, .ptr 1 0), (3, .ptr 0 0)]) (fun _ => [])
    (fun i => [(7, .cells [.sq 6 0 0 1 n .own] 94), (6, .row 0 n n 1 (brow (bfA P n i 0)) 93), (4, .cells [u16 (maskN (fun i => (P i).du) i)] 93), (3, .cells [u16 (maskN (fun i => (P i).d) i)] 93), (2, .cells [.sb last] 4), (1, .cells [i64 a0, i64 a1, i64 a2, i64 a3, i64 a4, i64 a5, i64 a6, i64 a7] 57), (0, .cells [.val lv] 77)]) 9 0 (Nat.zero_le _) [0, 1, 2, 3, 4, 5, 6, 7, 8] rfl rfl (by
      simp [conj, less_rfl, ren_prow, renR_prow, ren_brow, renR_brow, maskN]
      exact fun i _ => Less.of (by show u16 (bfA P n 0 0 i) = u16 0; unfold bfA; rw [if_neg (Nat.not_lt_zero _)]; split <;> rfl)) ?_
  intro i hi ih
  refine goT hB [(40, 23)] 400 rfl (by clear ih; first | exact conj_nil | simp [conj]) ?_
  by_cases hin : i < n
  · refine run_tt (by simpa using hin) ?_
    apply run_share (P := Try.prog) (f := 40) (ro := [(8, .row o2 n n 7 (prow P V) anyTy)]) (B := B) (fun N TD => ⟨⟨⟨40, none, []⟩, N, [(39, .val lv), (11, .ptr 9 0), (10, i64 i), (22, i64 i), (21, i64 n), (20, .sq 8 o2 0 7 n .no), (9, .ptr 7 0), (8, .ptr 4 0), (7, .ptr 3 0), (5, .ptr 2 0), (4, .ptr 1 0), (3, .ptr 0 0)], TD⟩, [], [(9, .cells [.sb (P i).w, .sb (P i).d, .sb (P i).du, i64 (P i).b, i64 (P i).e, i64 (P i).f, .val (V i)] 90), (7, .cells [.sq 6 0 0 1 n .own] 94), (6, .row 0 n n 1 (brow (bfA P n i 0)) 93), (4, .cells [u16 (maskN (fun i => (P i).du) (i + 1))] 93), (3, .cells [u16 (maskN (fun i => (P i).d) (i + 1))] 93), (2, .cells [.sb last] 4), (1, .cells [i64 a0, i64 a1, i64 a2, i64 a3, i64 a4, i64 a5, i64 a6, i64 a7] 57), (0, .cells [.val lv] 77)], 10⟩)
    · intro hjoin
      have hm1 : maskN (fun i => (P i).d) (i + 1) = bif (P i).d then maskN (fun i => (P i).d) i ||| 2 ^ i else maskN (fun i => (P i).d) i := rfl
      have hm2 : maskN (fun i => (P i).du) (i + 1) = bif (P i).du then maskN (fun i => (P i).du) i ||| 2 ^ i else maskN (fun i => (P i).du) i := rfl
      have e0 : 0 + ((i : Nat) : Int).toNat = i := by omega
      have hb1 := maskN_lt (fun i => (P i).d) i (by omega)
      have hb2 := maskN_lt (fun i => (P i).du) i (by omega)
      refine goT hB [(40, 28)] 400 rfl (by clear ih hjoin; simp [conj, hin]) ?_
      rw [e0]
      cases hd : (P i).d with
      | true =>
        rw [hd, cond_true] at hm1
        refine run_tt rfl ?_
        refine goT hB [(40, 34)] 400 rfl (by clear ih hjoin; first | exact conj_nil | simp [conj]) ?_
        rw [w_or hb1 (by omega)]
        cases hu : (P i).du with
        | true =>
          rw [hu, cond_true] at hm2
          refine run_tt rfl ?_
          refine goT hB [] 400 rfl (by clear ih hjoin; first | exact conj_nil | simp [conj]) ?_
          rw [w_or hb2 (by omega)]
          refine run_to hpin [0, 1, 2, 3, 4, 5, 6, 7, 8, 9] rfl rfl ?_ hjoin
          clear ih hjoin
          rw [hm1, hm2]
          simp [conj, less_rfl, ren_brow, renR_brow, ren_prow, hd, hu]
        | false =>
          rw [hu, cond_false] at hm2
          refine run_ff rfl ?_
          refine goT hB [] 400 rfl (by clear ih hjoin; first | exact conj_nil | simp [conj]) ?_
          refine run_to hpin [0, 1, 2, 3, 4, 5, 6, 7, 8, 9] rfl rfl ?_ hjoin
          clear ih hjoin
          rw [hm1, hm2]
          simp [conj, less_rfl, ren_brow, renR_brow, ren_prow, hd, hu]
      | false =>
        rw [hd, cond_false] at hm1
        refine run_ff rfl ?_
        refine goT hB [(40, 34)] 400 rfl (by clear ih hjoin; first | exact conj_nil | simp [conj]) ?_
        cases hu : (P i).du with
        | true =>
          rw [hu, cond_true] at hm2
          refine run_tt rfl ?_
          refine goT hB [] 400 rfl (by clear ih hjoin; first | exact conj_nil | simp [conj]) ?_
          rw [w_or hb2 (by omega)]
          refine run_to hpin [0, 1, 2, 3, 4, 5, 6, 7, 8, 9] rfl rfl ?_ hjoin
          clear ih hjoin
          rw [hm1, hm2]
          simp [conj, less_rfl, ren_brow, renR_brow, ren_prow, hd, hu]
        | false =>
          rw [hu, cond_false] at hm2
          refine run_ff rfl ?_
          refine goT hB [] 400 rfl (by clear ih hjoin; first | exact conj_nil | simp [conj]) ?_
          refine run_to hpin [0, 1, 2, 3, 4, 5, 6, 7, 8, 9] rfl rfl ?_ hjoin
          clear ih hjoin
          rw [hm1, hm2]
          simp [conj, less_rfl, ren_brow, renR_brow, ren_prow, hd, hu]
    · refine run_open hK 39 hl (by decide) rfl (fun o3 => ?_)
      refine goT hB [] 400 rfl (by clear ih; first | exact conj_nil | simp [conj]) ?_
      refine run_loop ?_
      refine run_inv (ι := Nat) hpin (fun k => k ≤ n) (fun k => n - k)
        (fun k => [(41, i64 k), (40, i64 n), (39, .sq 10 o3 0 7 n .no), (11, .ptr 9 0), (10, i64 i), (22, i64 i), (21, i64 n), (20, .sq 8 o2 0 7 n .no), (9, .ptr 7 0), (8, .ptr 4 0), (7, .ptr 3 0), (5, .ptr 2 0), (4, .ptr 1 0), (3, .ptr 0 0)]) (fun _ => [])
        (fun k => [(9, .cells [.sb (P i).w, .sb (P i).d, .sb (P i).du, i64 (P i).b, i64 (P i).e, i64 (P i).f, .val (V i)] 90), (7, .cells [.sq 6 0 0 1 n .own] 94), (6, .row 0 n n 1 (brow (bfA P n i k)) 93), (4, .cells [u16 (maskN (fun i => (P i).du) (i + 1))] 93), (3, .cells [u16 (maskN (fun i => (P i).d) (i + 1))] 93), (2, .cells [.sb last] 4), (1, .cells [i64 a0, i64 a1, i64 a2, i64 a3, i64 a4, i64 a5, i64 a6, i64 a7] 57), (0, .cells [.val lv] 77)]) 11 0 (Nat.zero_le _) [0, 1, 2, 3, 4, 5, 6, 7, 8, 9, 10] rfl rfl (by clear ih; simp [conj, less_rfl, ren_prow, ren_brow, renR_brow]) ?_
      intro k hk ik
      refine goT hB [(40, 42)] 400 rfl (by clear ih ik; first | exact conj_nil | simp [conj]) ?_
      by_cases hkn : k < n
      · have e0 : 0 + ((k : Nat) : Int).toNat = k := by omega
        have e1 : 0 + ((i : Nat) : Int).toNat = i := by omega
        have hbk := maskN_lt (pbf P i) k (by omega)
        have hbi : bfA P n i k i = maskN (pbf P i) k := by unfold bfA; rw [if_neg (Nat.lt_irrefl _), if_pos rfl]
        have hm : maskN (pbf P i) (k + 1) = bif pbf P i k then maskN (pbf P i) k ||| 2 ^ k else maskN (pbf P i) k := rfl
        have ik := ik (k + 1) (by omega) (by omega)
        refine run_tt (by simpa using hkn) ?_
        refine goT hB [(40, 47)] 400 rfl (by clear ih ik; simp [conj, hkn]) ?_
        rw [e0]
        have hno : pbf P i k = false → bfA P n i (k + 1) = bfA P n i k := fun q => by
          rw [q, cond_false] at hm; unfold bfA; rw [hm]
        cases hd : (P k).d with
        | false =>
          have hp : pbf P i k = false := by unfold pbf; rw [hd]; rfl
          rw [hno hp] at ik
          refine run_ff rfl ?_
          refine goT hB [] 400 rfl (by clear ih ik; simp [conj, Fits_i64]; omega) ?_
          refine run_back ?_
          refine run_to hpin [0, 1, 2, 3, 4, 5, 6, 7, 8, 9, 10] rfl rfl ?_ ik
          clear ih ik
          simp [conj, less_rfl, ren_prow, ren_brow, renR_brow]
        | true =>
          refine run_tt rfl ?_
          refine goT hB [(40, 53)] 400 rfl (by clear ih ik; first | exact conj_nil | simp [conj]) ?_
          by_cases hlt : (P k).e < (P i).b
          · have hp : pbf P i k = true := by unfold pbf; rw [hd, decide_eq_true hlt]; rfl
            rw [hp, cond_true] at hm
            refine run_tt (by simpa using hlt) ?_
            refine goT hB [] 400 rfl (by clear ih ik; simp [conj, Fits_i64]; omega) ?_
            rw [e1, hbi, w_or hbk (by omega)]
            refine run_back ?_
            refine run_to hpin [0, 1, 2, 3, 4, 5, 6, 7, 8, 9, 10] rfl rfl ?_ ik
            clear ih ik
            simp [conj, less_rfl, ren_prow, ren_brow, renR_brow]
            exact fun a _ => upd_lessB _ _ _ _ (by unfold bfA; rw [if_neg (Nat.lt_irrefl _), if_pos rfl]; exact hm) (fun a ha => by unfold bfA; rw [if_neg ha, if_neg ha]) a
          · have hp : pbf P i k = false := by unfold pbf; rw [hd, decide_eq_false hlt]; rfl
            rw [hno hp] at ik
            refine run_ff (by simpa using hlt) ?_
            refine goT hB [] 400 rfl (by clear ih ik; simp [conj, Fits_i64]; omega) ?_
            refine run_back ?_
            refine run_to hpin [0, 1, 2, 3, 4, 5, 6, 7, 8, 9, 10] rfl rfl ?_ ik
            clear ih ik
            simp [conj, less_rfl, ren_prow, ren_brow, renR_brow]
      · clear ik
        have hke : k = n := by omega
        subst hke
        have ih := ih (i + 1) (by omega) (by omega)
        have hb : bfA P k (i + 1) 0 = bfA P k i k := by
          funext j
          unfold bfA
          by_cases q1 : j < i
          · rw [if_pos q1, if_pos (by omega)]
          · by_cases q2 : j = i
            · rw [if_pos (by omega), if_neg q1, if_pos q2, q2]
            · rw [if_neg (by omega), if_neg q1, if_neg q2]
              split <;> rfl
        rw [hb] at ih
        refine run_ff (by simp) ?_
        refine run_close (.inl rfl) ?_
        refine goT hB [] 400 rfl (by clear ih; simp [conj, Fits_i64]; omega) ?_
        refine run_back ?_
        refine run_to hpin [0, 1, 2, 3, 4, 5, 6, 7, 8] rfl rfl ?_ ih
        clear ih
        simp [conj, less_rfl, ren_prow, renR_prow, ren_brow, renR_brow]
  · clear ih
    have hie : i = n := by omega
    subst hie
    refine run_ff (by simp) ?_
    refine run_close (.inl rfl) ?_
    refine goT hB [] 400 rfl (by first | exact conj_nil | simp [conj]) ?_
    refine run_freezeB (L := 6) (off := 0) (sz := 1) (m := i) (ap := .own) hB hK 7 0 rfl rfl rfl rfl (Nat.le_refl _) (fun _ _ _ _ => rfl) rfl (fun _ => rfl) (fun _ => rfl) (fun bv B1 K1 hbv hF1 hp1 => ?_)
    have hB1 := hF1.ok
    have hK1 := hF1.le
    have hq : SQok K1 (sqOf P i last) lv bv V := ⟨hn, maskN_lt _ _ (by omega), maskN_lt _ _ (by omega), fun j _ => maskN_lt _ _ (by omega), hl.fz hF1, hbv.congr (fun a c ha _ => by
      show u16 (maskN (pbf P a) i) = u16 (bfA P i i 0 a)
      unfold bfA; rw [if_pos ha]), fun j hj => (hv j hj).fz hF1, h0, h8, hfit⟩
    have hcnt : cntS (sqOf P i last) 0 < 13 := by
      have := List.length_filter_le (fun j => !(0 : Nat).testBit j) (List.range i)
      rw [List.length_range] at this
      show (List.filter _ (List.range i)).length < 13
      omega
    have hs := srch_hck hq 13 (0, [a0, a1, a2, a3, a4, a5, a6, a7]) ([], []) ⟨by show (0 : Nat) < 65536; decide, hok⟩ ⟨LM.nil _, LM.nil _⟩ hcnt
    refine run_callCK hs named hB1 hK1 [12, 3, 0, 7, 13, 2, 4, 10, 11, 9] rfl rfl rfl rfl (by first | exact conj_nil | simp [conj]) (by simp [conj, less_rfl, arrM, sqOf]) ?_
    rintro ⟨⟩ _
    refine ⟨show 10 ≤ 10 by omega, _, _, _, rfl, rfl, rfl, ?_⟩
    generalize (srch (sqOf P i last) 13 (0, [a0, a1, a2, a3, a4, a5, a6, a7]) ([], [])).1 = bx
    cases bx <;>
    · refine goT hB1 [] 400 rfl (by first | exact conj_nil | simp [conj]) ?_
      refine run_retF hF1 (hpin.fz hF1 hp1) () trivial [9] rfl rfl (by first | exact conj_nil | simp [conj]) rfl ?_
      simp [conj, less_rfl]
/-- What stands after an epoch. -/
def aftL (P : Nat → PT) (n : Nat) (last : Bool) (l : List Int) : MO := (srch (sqOf P n last) 13 (0, l) ([], [])).2.2
theorem after_hck {K : Kn} (P : Nat → PT) (n : Nat) (lv : Value) (V : Nat → Value) (last : Bool) (hn : n ≤ 12) (hl : Froz K lv n 7 (prow P V)) (hv : ∀ i, i < n → Froz K (V i) (P i).n 1 (urow (P i).v)) (h0 : ∀ i, i < n → 0 ≤ (P i).f) (h8 : ∀ i, i < n → (P i).f + (P i).n ≤ 8)
    (hfit : ∀ i, i < n → ∀ k, k < (P i).n → Fits .i64 ((P i).v k)) (l : List Int) (hok : okV l) :
    HCK Try.prog K 40 [.val lv, svV l, .sb last] [] [] 0 (fun _ : Unit => True) (fun _ => ⟨.mp 0, [(0, .obj (.map (arrM encV (aftL P n last l)) (aftL P n last l).length))], 1⟩) :=
  hck_of_hcx (after_hcx P n lv V last hn hl hv h0 h8 hfit l hok)
theorem aft_ok (P : Nat → PT) (n : Nat) (last : Bool) (hn : n ≤ 12) (hfit : ∀ i, i < n → ∀ k, k < (P i).n → Fits .i64 ((P i).v k)) (l : List Int) (hok : okV l) : LM okV (aftL P n last l) :=
  (srch_ok (q := sqOf P n last) hn hfit 13 (0, l) ([], []) ⟨by show (0 : Nat) < 65536; decide, hok⟩ ⟨LM.nil _, LM.nil _⟩).o
end Sx
