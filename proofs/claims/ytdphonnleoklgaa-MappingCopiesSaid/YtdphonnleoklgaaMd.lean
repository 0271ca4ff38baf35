/- Apply. Conditions: as each theorem says. -/
import Derived.Test.YtdphonnleoklgaaMc
set_option linter.unusedSimpArgs false
set_option linter.unusedVariables false
namespace Sx
open Go Go.Proofs
set_option maxRecDepth 100000
def ldr (l : Ld) : Nat → Nat → SV := fun i k =>
  match k with
  | 0 => i64 (l.getD i (0, 0)).1
  | 1 => i64 (l.getD i (0, 0)).2
  | _ => .und
theorem ren_ldr (nx : Nat) (sg : List Nat) (l : Ld) (i j : Nat) : ren nx sg (ldr l i j) = ldr l i j := by
  unfold ldr; split <;> simp only [ren, renF, id]
theorem renR_ldr (nx : Nat) (sg : List Nat) (l : Ld) : renR nx sg (ldr l) = ldr l := by funext i j; exact ren_ldr nx sg l i j
/-- After the first i assignments. -/
def stL (L : Ld) (es : Ld) (i : Nat) : Ld := (es.take i).foldl setL L
theorem stL_zero (L es : Ld) : stL L es 0 = L := rfl
theorem stL_succ (L : Ld) {es : Ld} {i : Nat} (h : i < es.length) : stL L es (i + 1) = setL (stL L es i) es[i] := by
  unfold stL
  rw [List.take_succ_eq_append_getElem h, List.foldl_append]; rfl
/-- The first i assignments are fine. -/
def okTo (S Bk P : Int) (L es : Ld) (i : Nat) : Prop := ∀ j (hj : j < es.length), j < i → fits1 S Bk P es[j] = true ∧ busy (stL L es j) es[j] = false
theorem okTo.inv {S Bk P : Int} {L es : Ld} (hL : MInv S (Bk * P) L) : ∀ {i : Nat}, i ≤ es.length → okTo S Bk P L es i → MInv S (Bk * P) (stL L es i)
  | 0, _, _ => hL
  | i + 1, hi, h => by
    rw [stL_succ L (by omega)]
    obtain ⟨h1, h2⟩ := h i (by omega) (by omega)
    exact (okTo.inv hL (by omega) fun j hj hji => h j hj (by omega)).set (fits_iff.1 h1) h2
/-- What was before each. -/
def bfr (L es : Ld) : Nat → Nat → SV := fun j k => match k with
  | 0 => i64 (wasX (stL L es j) (es.getD j (0, 0)).1).1
  | 1 => i64 (wasX (stL L es j) (es.getD j (0, 0)).1).2
  | _ => .und
theorem ren_bfr (nx : Nat) (sg : List Nat) (L es : Ld) (i j : Nat) : ren nx sg (bfr L es i j) = bfr L es i j := by
  unfold bfr; split <;> simp only [ren, renF, id]
theorem renR_bfr (nx : Nat) (sg : List Nat) (L es : Ld) : renR nx sg (bfr L es) = bfr L es := by funext i j; exact ren_bfr nx sg L es i j
theorem sto_bfr (L es : Ld) (j : Nat) {k : Nat} (hk : k < 2) : storable (bfr L es j k) = true := by
  match k, hk with
  | 0, _ => rfl
  | 1, _ => rfl
/-- The list and the error after all of them. -/
def appG (S Bk P : Int) (L0 : Ld) : Ld → Ld → Ld × Int
  | L, [] => (L, 0)
  | L, x :: r => if fits1 S Bk P x = true then (if busy L x = true then (L0, 11) else appG S Bk P L0 (setL L x) r) else (L0, 3)
theorem appG_end {S Bk P : Int} {L0 : Ld} : ∀ (es L : Ld), okTo S Bk P L es es.length → appG S Bk P L0 L es = (stL L es es.length, 0)
  | [], L, _ => rfl
  | x :: r, L, h => by
    obtain ⟨h1, h2⟩ := h 0 (by simp) (by simp)
    have h1 : fits1 S Bk P x = true := h1
    have h2 : busy L x = false := h2
    have ih := appG_end (L0 := L0) r (setL L x) (fun j hj hji => h (j + 1) (by simp; omega) (by simp; omega))
    simp only [appG, h1, h2, if_true, Bool.false_eq_true, if_false]
    rw [ih]; rfl
theorem appG_bad {S Bk P : Int} {L0 : Ld} : ∀ (es L : Ld) (i : Nat) (hi : i < es.length), okTo S Bk P L es i → (fits1 S Bk P es[i] = false → appG S Bk P L0 L es = (L0, 3)) ∧ (fits1 S Bk P es[i] = true → busy (stL L es i) es[i] = true → appG S Bk P L0 L es = (L0, 11))
  | [], _, i, hi, _ => by cases hi
  | x :: r, L, 0, _, _ => by
    constructor
    · intro h
      have h : fits1 S Bk P x = false := h
      simp only [appG, h, Bool.false_eq_true, if_false]
    · intro h h2
      have h : fits1 S Bk P x = true := h
      have h2 : busy L x = true := h2
      simp only [appG, h, h2, if_true]
  | x :: r, L, i + 1, hi, h => by
    obtain ⟨h1, h2⟩ := h 0 (by simp) (by simp)
    have h1 : fits1 S Bk P x = true := h1
    have h2 : busy L x = false := h2
    have ih := appG_bad (L0 := L0) r (setL L x) i (by simpa using hi) (fun j hj hji => h (j + 1) (by simp; omega) (by omega))
    simp only [appG, h1, h2, if_true, Bool.false_eq_true, if_false]
    exact ih
/-- set is entered. -/
def modeB : Mode := { st := true, unr := false, inl := fun f => Nat.beq f 27 || !hasN f cf, sum := sumOf s2, keep := fun _ => none }
theorem goB {B : Base} (hB : B.ok) {ro : Hp} {f : FuncId} {R : Ending → World → Prop} {cs0 cs : List Prop} {c c0 c' : Cfg} (h0 : stepD Try.prog modeB ro c = some (cs0, c0)) (h : execG Try.prog modeB ro 400 cs0 c0 = (cs, c')) (hc : conj cs)
    (hr : Run Try.prog ro B f R c') : Run Try.prog ro B f R c := run_go mixed named hB s2_ok 400 h0 h hc hr
theorem bfr_app (L : Ld) {es : Ld} {i : Nat} (hi : i < es.length) (v : Int) (hv : (wasX (stL L es i) es[i].1).2 = v) (j k : Nat) (hj : j < i + 1) (hk : k < 2) :
    bfr L es j k = appF (bfr L es) i (fun a k => [SV.int .i64 es[i].1, SV.int .i64 v][a * 2 + k]?.getD .und) j k := by
  unfold appF
  by_cases h : j < i
  · have hb : Nat.blt j i = true := by simpa [Nat.blt_eq] using h
    rw [hb]; rfl
  · have : j = i := by omega
    subst this
    have hb : Nat.blt j j = false := by
      cases hq : Nat.blt j j with
      | false => rfl
      | true => rw [Nat.blt_eq] at hq; omega
    rw [hb]
    have hg : es.getD j (0, 0) = es[j] := by simp [hi]
    match k, hk with
    | 0, _ => simp only [bfr, hg, wasX]; simp
    | 1, _ => simp only [bfr, hg]; rw [hv]; simp
set_option maxHeartbeats 4000000 in
theorem apply_hc (S Bk P : Int) (hN : okN S Bk P = true) (L : Ld) (hL : MInv S (Bk * P) L) (es : Ld) (off cap : Nat) (hn : es.length < 100000) :
    HC Try.prog 10 [.ptr 0 0, .sq 4 off 0 2 es.length .no] (mpH S Bk P L) [(4, .row off es.length cap 2 (ldr es) anyTy)] 5 (fun _ : Unit => True) (fun _ => ⟨i64 (appG S Bk P L L es).2, mpH S Bk P (appG S Bk P L L es).1, 5⟩) := by
  have hN' := okN_iff.1 hN
  have hm1 : 4 ≤ Bk * P := by
    have : 2 * 2 ≤ Bk * P := Int.mul_le_mul (by omega) (by omega) (by omega) (by omega)
    omega
  have hm2 : Bk * P ≤ 4096 * 512 := Int.mul_le_mul (by omega) (by omega) (by omega) (by omega)
  refine hc_of_run Try.func10 rfl (fun B hB hpin => ?_)
  refine goM hB rfl rfl (by simp [conj, isPt25, isMp58]) ?_
  refine run_condF rfl rfl ?_
  refine goM hB rfl rfl (by simp [conj, isPt25, isMp58]) ?_
  refine run_loop ?_
  refine run_inv (ι := Nat) hpin (fun i => i ≤ es.length ∧ okTo S Bk P L es i) (fun i => es.length - i)
    (fun i => [(17, i64 i), (16, i64 es.length), (15, .sq 4 off 0 2 es.length .no), (2, .ptr 5 0), (3, .ptr 6 0), (4, .ptr 7 0), (5, .ptr 8 0), (6, .ptr 9 0)]) (fun _ => [])
    (fun i => [(9, .cells [.sq 10 0 0 2 i .own] 31), (8, .cells [i64 i] 3), (7, .cells [i64 0] 26), (6, .cells [.sq 4 off 0 2 es.length .no] 31), (5, .cells [.ptr 0 0] 25)] ++ mpH S Bk P (stL L es i) ++ [(10, .row 0 i i 2 (bfr L es) 54)]) 11 0 ⟨Nat.zero_le _, fun j hj h => absurd h (Nat.not_lt_zero _)⟩
    [0, 1, 2, 3, 4, 5, 6, 7, 8, 9, 10] rfl rfl (by simp [conj, less_rfl, ren_ldr, ren_cntF, stL_zero]) ?_
  rintro i ⟨h1, h2⟩ ih
  have hI := okTo.inv hL h1 h2
  refine goM hB rfl rfl (by simp [conj]) ?_
  refine run_cond rfl (fun h => ?_) (fun h => ?_)
  · have hi : i < es.length := by simpa using h
    refine goM hB rfl rfl (by simp [conj, hi]) ?_
    refine run_cond rfl (fun hs => ?_) (fun hs => ?_)
    · refine goM hB rfl rfl (by simp [conj]) ?_
      cases hf : fits1 S Bk P es[i] with
      | false =>
        clear ih
        have hf' : fitsB S Bk P es[i].1 es[i].2 = false := hf
        refine goB hB rfl rfl (by simp [conj, Fits_i64]; omega) ?_
        refine run_condT rfl (by simp [hi, hf']) ?_
        refine goB hB rfl rfl (by simp [conj, isIf20]) ?_
        refine run_condT rfl rfl ?_
        refine goB hB rfl rfl (by simp [conj, Fits_i64, isIf20]; omega) ?_
        refine run_loop ?_
        refine run_invK (ι := Nat) hpin (fun k => k ≤ i) (fun k => k)
          (fun k => [(6, i64 ((k : Int) - 1)), (0, .ptr 7 0), (1, .ptr 8 0), (2, .ptr 5 0), (3, .ptr 6 0), (4, .ptr 9 0)]) (fun _ => [[(4, .ptr 7 0)]]) []
          (fun k => [(9, .cells [.sq 10 0 0 2 i .own] 31), (8, .cells [i64 i] 3), (7, .cells [i64 3] 26), (6, .cells [.sq 4 off 0 2 es.length .no] 31), (5, .cells [.ptr 0 0] 25)] ++ mpH S Bk P (stL L es k) ++ [(10, .row 0 i i 2 (bfr L es) 54)]) 11 i (Nat.le_refl _)
          [0, 1, 2, 3, 4, 5, 6, 7, 8, 9, 10] rfl rfl (by simp [conj, SV.closed, less_rfl, ren_ldr, ren_cntF, ren_bfr]) ?_
        intro k hk ih
        refine goM hB rfl rfl (by simp [conj]) ?_
        refine run_cond rfl (fun hc => ?_) (fun hc => ?_)
        · obtain ⟨q, rfl⟩ : ∃ q, k = q + 1 := ⟨k - 1, by simp at hc; omega⟩
          have hq : q < es.length := by omega
          have ih := ih q (by omega) (by omega)
          obtain ⟨f1, f2⟩ := h2 q hq (by omega)
          have hJ := okTo.inv hL (show q ≤ es.length by omega) (fun j hj hji => h2 j hj (by omega))
          have hJ1 := okTo.inv hL (show q + 1 ≤ es.length by omega) (fun j hj hji => h2 j hj (by omega))
          have fr := fits_iff.1 f1
          refine goM hB rfl rfl (by simp [conj, Fits_i64]; omega) ?_
          refine run_callC (set_hc S Bk P hN (stL L es (q + 1)) hJ1 (es[q].1, -1) (fits_iff.2 ⟨fr.1, fr.2.1, by show (-1 : Int) ≤ -1; omega, by show (-1 : Int) < _; omega⟩) (busy_neg hJ1 _)) named hB [0, 1, 2, 3] rfl rfl rfl rfl (by simp [conj]) (by simp [conj, less_rfl, ren_cntF, hq]) ?_
          rintro ⟨⟩ _
          refine ⟨show 4 ≤ 4 by omega, _, _, _, rfl, rfl, rfl, ?_⟩
          have e1 : setL (stL L es (q + 1)) (es[q].1, -1) = without (stL L es q) es[q].1 := by rw [stL_succ L hq, undo1]
          rw [e1]
          refine goM hB rfl rfl (by simp [conj, Fits_i64]; omega) ?_
          refine run_callC (set_hc S Bk P hN (without (stL L es q) es[q].1) (hJ.without _) (wasX (stL L es q) es[q].1) (fits_iff.2 (inR_was hJ fr.1 fr.2.1 (by omega))) (busy_was hJ _)) named hB [0, 1, 2, 3] rfl rfl rfl rfl (by simp [conj]) (by simp [conj, less_rfl, ren_cntF, renR_cntF, hq]) ?_
          rintro ⟨⟩ _
          refine ⟨show 4 ≤ 4 by omega, _, _, _, rfl, rfl, rfl, ?_⟩
          rw [undo2 hJ]
          refine goM hB rfl rfl (by simp [conj, Fits_i64]; omega) ?_
          refine run_back ?_
          refine run_to hpin [0, 1, 2, 3, 4, 5, 6, 7, 8, 9, 10] rfl rfl ?_ ih
          clear ih
          simp [conj, SV.closed, less_rfl, ren_ldr, ren_cntF, renR_cntF, ren_bfr]
          try omega
        · clear ih
          have : k = 0 := by simp at hc; omega
          subst this
          refine goM hB rfl rfl (by simp [conj, isIf20]) ?_
          rw [(appG_bad es L i hi h2).1 hf]
          refine run_retCX hpin () trivial [0, 1, 2, 3, 4] (.inl rfl) rfl rfl rfl rfl conj_nil conj_nil rfl (by simp [conj, less_rfl, ren_ldr, ren_cntF, stL_zero])
      | true =>
      cases hb : busy (stL L es i) es[i] with
      | true =>
        clear ih
        have hf' : fitsB S Bk P es[i].1 es[i].2 = true := hf
        have hb1 : hasP (stL L es i) es[i].2 = true := by
          unfold busy at hb; rw [Bool.and_eq_true] at hb; exact hb.1
        have hb2 : scP (stL L es i) es[i].2 ≠ es[i].1 := by
          unfold busy at hb; rw [Bool.and_eq_true] at hb; simpa using hb.2
        refine goB hB rfl rfl (by simp [conj, Fits_i64]; omega) ?_
        refine run_condF rfl (by simp [hi, hf']) ?_
        refine goB hB rfl rfl (by simp [conj]) ?_
        refine run_condT rfl (by simp [hi, hb1]) ?_
        refine goB hB rfl rfl (by simp [conj]) ?_
        refine run_condT rfl (by simp [hi, hb1, hb2]) ?_
        refine goB hB rfl rfl (by simp [conj, isIf20]) ?_
        refine run_condT rfl rfl ?_
        refine goB hB rfl rfl (by simp [conj, Fits_i64, isIf20]; omega) ?_
        refine run_loop ?_
        refine run_invK (ι := Nat) hpin (fun k => k ≤ i) (fun k => k)
          (fun k => [(6, i64 ((k : Int) - 1)), (0, .ptr 7 0), (1, .ptr 8 0), (2, .ptr 5 0), (3, .ptr 6 0), (4, .ptr 9 0)]) (fun _ => [[(4, .ptr 7 0)]]) []
          (fun k => [(9, .cells [.sq 10 0 0 2 i .own] 31), (8, .cells [i64 i] 3), (7, .cells [i64 11] 26), (6, .cells [.sq 4 off 0 2 es.length .no] 31), (5, .cells [.ptr 0 0] 25)] ++ mpH S Bk P (stL L es k) ++ [(10, .row 0 i i 2 (bfr L es) 54)]) 11 i (Nat.le_refl _)
          [0, 1, 2, 3, 4, 5, 6, 7, 8, 9, 10] rfl rfl (by simp [conj, SV.closed, less_rfl, ren_ldr, ren_cntF, ren_bfr]) ?_
        intro k hk ih
        refine goM hB rfl rfl (by simp [conj]) ?_
        refine run_cond rfl (fun hc => ?_) (fun hc => ?_)
        · obtain ⟨q, rfl⟩ : ∃ q, k = q + 1 := ⟨k - 1, by simp at hc; omega⟩
          have hq : q < es.length := by omega
          have ih := ih q (by omega) (by omega)
          obtain ⟨f1, f2⟩ := h2 q hq (by omega)
          have hJ := okTo.inv hL (show q ≤ es.length by omega) (fun j hj hji => h2 j hj (by omega))
          have hJ1 := okTo.inv hL (show q + 1 ≤ es.length by omega) (fun j hj hji => h2 j hj (by omega))
          have fr := fits_iff.1 f1
          refine goM hB rfl rfl (by simp [conj, Fits_i64]; omega) ?_
          refine run_callC (set_hc S Bk P hN (stL L es (q + 1)) hJ1 (es[q].1, -1) (fits_iff.2 ⟨fr.1, fr.2.1, by show (-1 : Int) ≤ -1; omega, by show (-1 : Int) < _; omega⟩) (busy_neg hJ1 _)) named hB [0, 1, 2, 3] rfl rfl rfl rfl (by simp [conj]) (by simp [conj, less_rfl, ren_cntF, hq]) ?_
          rintro ⟨⟩ _
          refine ⟨show 4 ≤ 4 by omega, _, _, _, rfl, rfl, rfl, ?_⟩
          have e1 : setL (stL L es (q + 1)) (es[q].1, -1) = without (stL L es q) es[q].1 := by rw [stL_succ L hq, undo1]
          rw [e1]
          refine goM hB rfl rfl (by simp [conj, Fits_i64]; omega) ?_
          refine run_callC (set_hc S Bk P hN (without (stL L es q) es[q].1) (hJ.without _) (wasX (stL L es q) es[q].1) (fits_iff.2 (inR_was hJ fr.1 fr.2.1 (by omega))) (busy_was hJ _)) named hB [0, 1, 2, 3] rfl rfl rfl rfl (by simp [conj]) (by simp [conj, less_rfl, ren_cntF, renR_cntF, hq]) ?_
          rintro ⟨⟩ _
          refine ⟨show 4 ≤ 4 by omega, _, _, _, rfl, rfl, rfl, ?_⟩
          rw [undo2 hJ]
          refine goM hB rfl rfl (by simp [conj, Fits_i64]; omega) ?_
          refine run_back ?_
          refine run_to hpin [0, 1, 2, 3, 4, 5, 6, 7, 8, 9, 10] rfl rfl ?_ ih
          clear ih
          simp [conj, SV.closed, less_rfl, ren_ldr, ren_cntF, renR_cntF, ren_bfr]
          try omega
        · clear ih
          have : k = 0 := by simp at hc; omega
          subst this
          refine goM hB rfl rfl (by simp [conj, isIf20]) ?_
          rw [(appG_bad es L i hi h2).2 hf hb]
          refine run_retCX hpin () trivial [0, 1, 2, 3, 4] (.inl rfl) rfl rfl rfl rfl conj_nil conj_nil rfl (by simp [conj, less_rfl, ren_ldr, ren_cntF, stL_zero])
      | false =>
      have hok : okTo S Bk P L es (i + 1) := fun j hj hji => by
        rcases Nat.lt_or_ge j i with q | q
        · exact h2 j hj q
        · have : j = i := by omega
          subst this; exact ⟨hf, hb⟩
      have ih := ih (i + 1) ⟨by omega, hok⟩ (by omega)
      refine run_callC (set_hc S Bk P hN (stL L es i) hI es[i] hf hb) named hB [0, 1, 2, 3] rfl rfl rfl rfl (by simp [conj]) (by simp [conj, less_rfl, ren_cntF, hi]) ?_
      rintro ⟨⟩ _
      refine ⟨show 4 ≤ 4 by omega, _, _, _, rfl, rfl, rfl, ?_⟩
      refine goM hB rfl rfl ?_ ?_
      · clear ih
        simp [conj, Fits_i64]
        exact ⟨by omega, by omega, by omega, fun j k _ hk => sto_bfr L es j hk⟩
      refine run_back ?_
      refine run_to hpin [0, 1, 2, 3, 4, 5, 6, 7, 8, 9, 31] rfl rfl ?_ ih
      clear ih
      rw [stL_succ L hi]
      simp [conj, less_rfl, ren_ldr, ren_cntF, renR_cntF, ren_bfr]
      refine fun j k hj hk => Less.of ?_
      have hs1 : hasS (stL L es i) es[i].1 = true := by simpa [hi] using hs
      rw [bfr_app L hi (pgS (stL L es i) es[i].1) (by simp [wasX, hs1]) j k hj hk]
      simp [hi, hs1]
    · refine goM hB rfl rfl (by simp [conj]) ?_
      cases hf : fits1 S Bk P es[i] with
      | false =>
        clear ih
        have hf' : fitsB S Bk P es[i].1 es[i].2 = false := hf
        refine goB hB rfl rfl (by simp [conj, Fits_i64]; omega) ?_
        refine run_condT rfl (by simp [hi, hf']) ?_
        refine goB hB rfl rfl (by simp [conj, isIf20]) ?_
        refine run_condT rfl rfl ?_
        refine goB hB rfl rfl (by simp [conj, Fits_i64, isIf20]; omega) ?_
        refine run_loop ?_
        refine run_invK (ι := Nat) hpin (fun k => k ≤ i) (fun k => k)
          (fun k => [(6, i64 ((k : Int) - 1)), (0, .ptr 7 0), (1, .ptr 8 0), (2, .ptr 5 0), (3, .ptr 6 0), (4, .ptr 9 0)]) (fun _ => [[(4, .ptr 7 0)]]) []
          (fun k => [(9, .cells [.sq 10 0 0 2 i .own] 31), (8, .cells [i64 i] 3), (7, .cells [i64 3] 26), (6, .cells [.sq 4 off 0 2 es.length .no] 31), (5, .cells [.ptr 0 0] 25)] ++ mpH S Bk P (stL L es k) ++ [(10, .row 0 i i 2 (bfr L es) 54)]) 11 i (Nat.le_refl _)
          [0, 1, 2, 3, 4, 5, 6, 7, 8, 9, 10] rfl rfl (by simp [conj, SV.closed, less_rfl, ren_ldr, ren_cntF, ren_bfr]) ?_
        intro k hk ih
        refine goM hB rfl rfl (by simp [conj]) ?_
        refine run_cond rfl (fun hc => ?_) (fun hc => ?_)
        · obtain ⟨q, rfl⟩ : ∃ q, k = q + 1 := ⟨k - 1, by simp at hc; omega⟩
          have hq : q < es.length := by omega
          have ih := ih q (by omega) (by omega)
          obtain ⟨f1, f2⟩ := h2 q hq (by omega)
          have hJ := okTo.inv hL (show q ≤ es.length by omega) (fun j hj hji => h2 j hj (by omega))
          have hJ1 := okTo.inv hL (show q + 1 ≤ es.length by omega) (fun j hj hji => h2 j hj (by omega))
          have fr := fits_iff.1 f1
          refine goM hB rfl rfl (by simp [conj, Fits_i64]; omega) ?_
          refine run_callC (set_hc S Bk P hN (stL L es (q + 1)) hJ1 (es[q].1, -1) (fits_iff.2 ⟨fr.1, fr.2.1, by show (-1 : Int) ≤ -1; omega, by show (-1 : Int) < _; omega⟩) (busy_neg hJ1 _)) named hB [0, 1, 2, 3] rfl rfl rfl rfl (by simp [conj]) (by simp [conj, less_rfl, ren_cntF, hq]) ?_
          rintro ⟨⟩ _
          refine ⟨show 4 ≤ 4 by omega, _, _, _, rfl, rfl, rfl, ?_⟩
          have e1 : setL (stL L es (q + 1)) (es[q].1, -1) = without (stL L es q) es[q].1 := by rw [stL_succ L hq, undo1]
          rw [e1]
          refine goM hB rfl rfl (by simp [conj, Fits_i64]; omega) ?_
          refine run_callC (set_hc S Bk P hN (without (stL L es q) es[q].1) (hJ.without _) (wasX (stL L es q) es[q].1) (fits_iff.2 (inR_was hJ fr.1 fr.2.1 (by omega))) (busy_was hJ _)) named hB [0, 1, 2, 3] rfl rfl rfl rfl (by simp [conj]) (by simp [conj, less_rfl, ren_cntF, renR_cntF, hq]) ?_
          rintro ⟨⟩ _
          refine ⟨show 4 ≤ 4 by omega, _, _, _, rfl, rfl, rfl, ?_⟩
          rw [undo2 hJ]
          refine goM hB rfl rfl (by simp [conj, Fits_i64]; omega) ?_
          refine run_back ?_
          refine run_to hpin [0, 1, 2, 3, 4, 5, 6, 7, 8, 9, 10] rfl rfl ?_ ih
          clear ih
          simp [conj, SV.closed, less_rfl, ren_ldr, ren_cntF, renR_cntF, ren_bfr]
          try omega
        · clear ih
          have : k = 0 := by simp at hc; omega
          subst this
          refine goM hB rfl rfl (by simp [conj, isIf20]) ?_
          rw [(appG_bad es L i hi h2).1 hf]
          refine run_retCX hpin () trivial [0, 1, 2, 3, 4] (.inl rfl) rfl rfl rfl rfl conj_nil conj_nil rfl (by simp [conj, less_rfl, ren_ldr, ren_cntF, stL_zero])
      | true =>
      cases hb : busy (stL L es i) es[i] with
      | true =>
        clear ih
        have hf' : fitsB S Bk P es[i].1 es[i].2 = true := hf
        have hb1 : hasP (stL L es i) es[i].2 = true := by
          unfold busy at hb; rw [Bool.and_eq_true] at hb; exact hb.1
        have hb2 : scP (stL L es i) es[i].2 ≠ es[i].1 := by
          unfold busy at hb; rw [Bool.and_eq_true] at hb; simpa using hb.2
        refine goB hB rfl rfl (by simp [conj, Fits_i64]; omega) ?_
        refine run_condF rfl (by simp [hi, hf']) ?_
        refine goB hB rfl rfl (by simp [conj]) ?_
        refine run_condT rfl (by simp [hi, hb1]) ?_
        refine goB hB rfl rfl (by simp [conj]) ?_
        refine run_condT rfl (by simp [hi, hb1, hb2]) ?_
        refine goB hB rfl rfl (by simp [conj, isIf20]) ?_
        refine run_condT rfl rfl ?_
        refine goB hB rfl rfl (by simp [conj, Fits_i64, isIf20]; omega) ?_
        refine run_loop ?_
        refine run_invK (ι := Nat) hpin (fun k => k ≤ i) (fun k => k)
          (fun k => [(6, i64 ((k : Int) - 1)), (0, .ptr 7 0), (1, .ptr 8 0), (2, .ptr 5 0), (3, .ptr 6 0), (4, .ptr 9 0)]) (fun _ => [[(4, .ptr 7 0)]]) []
          (fun k => [(9, .cells [.sq 10 0 0 2 i .own] 31), (8, .cells [i64 i] 3), (7, .cells [i64 11] 26), (6, .cells [.sq 4 off 0 2 es.length .no] 31), (5, .cells [.ptr 0 0] 25)] ++ mpH S Bk P (stL L es k) ++ [(10, .row 0 i i 2 (bfr L es) 54)]) 11 i (Nat.le_refl _)
          [0, 1, 2, 3, 4, 5, 6, 7, 8, 9, 10] rfl rfl (by simp [conj, SV.closed, less_rfl, ren_ldr, ren_cntF, ren_bfr]) ?_
        intro k hk ih
        refine goM hB rfl rfl (by simp [conj]) ?_
        refine run_cond rfl (fun hc => ?_) (fun hc => ?_)
        · obtain ⟨q, rfl⟩ : ∃ q, k = q + 1 := ⟨k - 1, by simp at hc; omega⟩
          have hq : q < es.length := by omega
          have ih := ih q (by omega) (by omega)
          obtain ⟨f1, f2⟩ := h2 q hq (by omega)
          have hJ := okTo.inv hL (show q ≤ es.length by omega) (fun j hj hji => h2 j hj (by omega))
          have hJ1 := okTo.inv hL (show q + 1 ≤ es.length by omega) (fun j hj hji => h2 j hj (by omega))
          have fr := fits_iff.1 f1
          refine goM hB rfl rfl (by simp [conj, Fits_i64]; omega) ?_
          refine run_callC (set_hc S Bk P hN (stL L es (q + 1)) hJ1 (es[q].1, -1) (fits_iff.2 ⟨fr.1, fr.2.1, by show (-1 : Int) ≤ -1; omega, by show (-1 : Int) < _; omega⟩) (busy_neg hJ1 _)) named hB [0, 1, 2, 3] rfl rfl rfl rfl (by simp [conj]) (by simp [conj, less_rfl, ren_cntF, hq]) ?_
          rintro ⟨⟩ _
          refine ⟨show 4 ≤ 4 by omega, _, _, _, rfl, rfl, rfl, ?_⟩
          have e1 : setL (stL L es (q + 1)) (es[q].1, -1) = without (stL L es q) es[q].1 := by rw [stL_succ L hq, undo1]
          rw [e1]
          refine goM hB rfl rfl (by simp [conj, Fits_i64]; omega) ?_
          refine run_callC (set_hc S Bk P hN (without (stL L es q) es[q].1) (hJ.without _) (wasX (stL L es q) es[q].1) (fits_iff.2 (inR_was hJ fr.1 fr.2.1 (by omega))) (busy_was hJ _)) named hB [0, 1, 2, 3] rfl rfl rfl rfl (by simp [conj]) (by simp [conj, less_rfl, ren_cntF, renR_cntF, hq]) ?_
          rintro ⟨⟩ _
          refine ⟨show 4 ≤ 4 by omega, _, _, _, rfl, rfl, rfl, ?_⟩
          rw [undo2 hJ]
          refine goM hB rfl rfl (by simp [conj, Fits_i64]; omega) ?_
          refine run_back ?_
          refine run_to hpin [0, 1, 2, 3, 4, 5, 6, 7, 8, 9, 10] rfl rfl ?_ ih
          clear ih
          simp [conj, SV.closed, less_rfl, ren_ldr, ren_cntF, renR_cntF, ren_bfr]
          try omega
        · clear ih
          have : k = 0 := by simp at hc; omega
          subst this
          refine goM hB rfl rfl (by simp [conj, isIf20]) ?_
          rw [(appG_bad es L i hi h2).2 hf hb]
          refine run_retCX hpin () trivial [0, 1, 2, 3, 4] (.inl rfl) rfl rfl rfl rfl conj_nil conj_nil rfl (by simp [conj, less_rfl, ren_ldr, ren_cntF, stL_zero])
      | false =>
      have hok : okTo S Bk P L es (i + 1) := fun j hj hji => by
        rcases Nat.lt_or_ge j i with q | q
        · exact h2 j hj q
        · have : j = i := by omega
          subst this; exact ⟨hf, hb⟩
      have ih := ih (i + 1) ⟨by omega, hok⟩ (by omega)
      refine run_callC (set_hc S Bk P hN (stL L es i) hI es[i] hf hb) named hB [0, 1, 2, 3] rfl rfl rfl rfl (by simp [conj]) (by simp [conj, less_rfl, ren_cntF, hi]) ?_
      rintro ⟨⟩ _
      refine ⟨show 4 ≤ 4 by omega, _, _, _, rfl, rfl, rfl, ?_⟩
      refine goM hB rfl rfl ?_ ?_
      · clear ih
        simp [conj, Fits_i64]
        exact ⟨by omega, by omega, by omega, fun j k _ hk => sto_bfr L es j hk⟩
      refine run_back ?_
      refine run_to hpin [0, 1, 2, 3, 4, 5, 6, 7, 8, 9, 31] rfl rfl ?_ ih
      clear ih
      rw [stL_succ L hi]
      simp [conj, less_rfl, ren_ldr, ren_cntF, renR_cntF, ren_bfr]
      refine fun j k hj hk => Less.of ?_
      have hs1 : hasS (stL L es i) es[i].1 = false := by simpa [hi] using hs
      rw [bfr_app L hi (-1) (by simp [wasX, hs1]) j k hj hk]
      simp [hi]
  · clear ih
    have : i = es.length := by simp at h; omega
    subst this
    refine goM hB rfl rfl (by simp [conj, isIf20]) ?_
    refine run_condF rfl rfl ?_
    refine goM hB rfl rfl (by simp [conj, isIf20]) ?_
    rw [appG_end es L h2]
    refine run_retCX hpin () trivial [0, 1, 2, 3, 4] (.inl rfl) rfl rfl rfl rfl conj_nil conj_nil rfl (by simp [conj, less_rfl, ren_ldr, ren_cntF])
end Sx
