/- The reference's Apply. Conditions: as each theorem says. -/
import Derived.Test.YtdphonnleoklgaaMn
set_option linter.unusedSimpArgs false
set_option linter.unusedVariables false
namespace Sx
open Go Go.Proofs
set_option maxRecDepth 100000
theorem ins_eq {x : Int × Int} : ∀ {W : Ld} {k : Nat}, k ≤ W.length → (∀ j (hj : j < W.length), j < k → W[j].1 < x.1) → (∀ hk : k < W.length, ¬ W[k].1 < x.1) → ins x W = W.take k ++ x :: W.drop k
  | [], 0, _, _, _ => rfl
  | [], k + 1, h, _, _ => by simp at h
  | y :: r, 0, _, _, h2 => by
    have := h2 (by simp)
    simp only [ins]
    rw [if_neg (by simpa using this)]; rfl
  | y :: r, k + 1, h, h1, h2 => by
    have h0 := h1 0 (by simp) (by omega)
    have ih := ins_eq (x := x) (W := r) (k := k) (by simpa using h) (fun j hj hjk => by have := h1 (j + 1) (by simpa using hj) (by omega); simpa using this) (fun hk => by have := h2 (by simpa using hk); simpa using this)
    simp only [ins]
    rw [if_pos (by simpa using h0), ih]; rfl
theorem getD_ins (W : Ld) (x : Int × Int) {k : Nat} (hk : k ≤ W.length) (i : Nat) : (W.take k ++ x :: W.drop k).getD i (0, 0) = if i < k then W.getD i (0, 0) else if i = k then x else W.getD (i - 1) (0, 0) := by
  have hl : (W.take k).length = k := by simp [hk]
  simp only [List.getD_eq_getElem?_getD]
  by_cases h : i < k
  · rw [if_pos h, List.getElem?_append_left (by omega), List.getElem?_take, if_pos h]
  · rw [if_neg h, List.getElem?_append_right (by omega), hl]
    by_cases e : i = k
    · rw [if_pos e, e, Nat.sub_self]; rfl
    · rw [if_neg e]
      obtain ⟨q, hq⟩ : ∃ q, i - k = q + 1 := ⟨i - k - 1, by omega⟩
      rw [hq, List.getElem?_cons_succ, List.getElem?_drop, show k + q = i - 1 by omega]
theorem blt_true {a b : Nat} (h : a < b) : Nat.blt a b = true := by simpa [Nat.blt_eq] using h
theorem blt_false {a b : Nat} (h : ¬ a < b) : Nat.blt a b = false := by
  cases hq : Nat.blt a b with
  | false => rfl
  | true => rw [Nat.blt_eq] at hq; omega
theorem ldr_ins (W : Ld) (x : Int × Int) {k : Nat} (hk : k ≤ W.length) (i c : Nat) (hc : c < 2) :
    ldr (W.take k ++ x :: W.drop k) i c = appF (appF (appF (fun _ _ => SV.und) 0 fun i c => ldr W i c) k fun a c => [SV.int .i64 x.1, SV.int .i64 x.2][a * 2 + c]?.getD SV.und) (k + 1) (fun a c => ldr W (k + a) c) i c := by
  unfold appF
  have hg := getD_ins W x hk i
  have hc' : c = 0 ∨ c = 1 := by omega
  by_cases h : i < k + 1
  · rw [blt_true h, cond_true]
    by_cases h2 : i < k
    · rw [blt_true h2, cond_true, blt_false (Nat.not_lt_zero _), cond_false]
      rw [if_pos h2] at hg
      rcases hc' with rfl | rfl <;> simp only [ldr, hg, Nat.sub_zero]
    · rw [blt_false h2, cond_false]
      have : i = k := by omega
      subst this
      rw [if_neg h2, if_pos rfl] at hg
      rcases hc' with rfl | rfl <;> (simp only [ldr, hg]; simp)
  · rw [blt_false h, cond_false]
    rw [if_neg (by omega), if_neg (by omega)] at hg
    show ldr (W.take k ++ x :: W.drop k) i c = ldr W (k + (i - (k + 1))) c
    rw [show k + (i - (k + 1)) = i - 1 by omega]
    rcases hc' with rfl | rfl <;> simp only [ldr, hg]
theorem sto_ldr (W : Ld) (a : Nat) {c : Nat} (hc : c < 2) : storable (ldr W a c) = true := by
  match c, hc with
  | 0, _ => rfl
  | 1, _ => rfl
def modeR : Mode := { st := true, unr := false, inl := fun f => !hasN f [28, 29], sum := sumOf s2, keep := fun _ => none }
theorem goR {B : Base} (hB : B.ok) {ro : Hp} {f : FuncId} {R : Ending → World → Prop} {cs0 cs : List Prop} {c c0 c' : Cfg} (h0 : stepD Try.prog modeR ro c = some (cs0, c0)) (h : execG Try.prog modeR ro 400 cs0 c0 = (cs, c')) (hc : conj cs)
    (hr : Run Try.prog ro B f R c') : Run Try.prog ro B f R c := run_go mixed named hB s2_ok 400 h0 h hc hr
theorem okTo_dec (S Bk P : Int) (L es : Ld) : ∀ i, i ≤ es.length → okTo S Bk P L es i ∨ ∃ j, ∃ hj : j < es.length, j < i ∧ okTo S Bk P L es j ∧ ¬ (fits1 S Bk P es[j] = true ∧ busy (stL L es j) es[j] = false)
  | 0, _ => .inl fun j hj h => absurd h (Nat.not_lt_zero _)
  | i + 1, hi => by
    rcases okTo_dec S Bk P L es i (by omega) with h | ⟨j, hj, h1, h2, h3⟩
    · by_cases hq : fits1 S Bk P es[i] = true ∧ busy (stL L es i) es[i] = false
      · left
        intro j hj hji
        rcases Nat.lt_or_ge j i with q | q
        · exact h j hj q
        · have : j = i := by omega
          subst this; exact hq
      · exact .inr ⟨i, by omega, by omega, h, hq⟩
    · exact .inr ⟨j, hj, by omega, h2, h3⟩
/-- Whether it gives a new list. -/
def isNew (S Bk P : Int) (L es : Ld) : Bool := decide (es ≠ [] ∧ (appG S Bk P L L es).2 = 0)
theorem isNew_bad {S Bk P : Int} {L es : Ld} {e : Int} (he : e ≠ 0) (h : appG S Bk P L L es = (L, e)) : isNew S Bk P L es = false := by
  unfold isNew; rw [h]; simp [he]
set_option maxHeartbeats 8000000 in
theorem applyR_hc (S Bk P : Int) (hN : okN S Bk P = true) (L : Ld) (hL : MInv S (Bk * P) L) (cap : Nat) (es : Ld) (off cap2 : Nat) (hn : es.length < 100000) (hS : S ≤ 1000) :
    HC Try.prog 16 [refM S Bk P 0 L.length .no, .sq 1 off 0 2 es.length .no] [] [(0, .row 0 L.length cap 2 (ldr L) anyTy), (1, .row off es.length cap2 2 (ldr es) anyTy)] 2 (fun z : Bool => z = isNew S Bk P L es)
      (fun z => match z with
        | true => ⟨.tup [refM S Bk P 2 (appG S Bk P L L es).1.length .own, i64 0], [(2, .row 0 (appG S Bk P L L es).1.length (appG S Bk P L L es).1.length 2 (ldr (appG S Bk P L L es).1) 54)], 3⟩
        | false => ⟨.tup [refM S Bk P 0 L.length .no, i64 (appG S Bk P L L es).2], [], 2⟩) := by
  have hN' := okN_iff.1 hN
  have hm1 : 4 ≤ Bk * P := by
    have : 2 * 2 ≤ Bk * P := Int.mul_le_mul (by omega) (by omega) (by omega) (by omega)
    omega
  have hm2 : Bk * P ≤ 4096 * 512 := Int.mul_le_mul (by omega) (by omega) (by omega) (by omega)
  refine hc_of_run Try.func16 rfl (fun B hB hpin => ?_)
  refine goR hB rfl rfl (by simp [conj]) ?_
  refine run_loop ?_
  refine goR hB rfl rfl (by simp [conj]) ?_
  refine run_cond rfl (fun h => ?_) (fun h => ?_)
  · have hi : 0 < es.length := by simpa using h
    have hX := hL
    have hok : okTo S Bk P L es 0 := fun j hj h => absurd h (Nat.not_lt_zero _)
    refine goR hB rfl rfl (by simp [conj, hi, Fits_i64]; omega) ?_
    have hlX := len_le' hX (by omega)
    cases hf : fits1 S Bk P es[0] with
    | false =>
      have hbad := (appG_bad (L0 := L) es L 0 hi hok).1 hf
      have hf' : fitsB S Bk P es[0].1 es[0].2 = false := hf
      refine run_condT rfl (by simp [fitsB, hi] at hf' ⊢; omega) ?_
      refine goR hB rfl rfl (by simp [conj]) ?_
      refine run_retC hpin false (isNew_bad (by decide) hbad).symm [0, 1] rfl rfl (by simp [conj]) rfl ?_
      rw [hbad]
      simp [conj, less_rfl, ren_ldr]
    | true =>
    have hf' : fitsB S Bk P es[0].1 es[0].2 = true := hf
    have hir := fits_iff.1 hf
    refine run_condF rfl (by simp [fitsB, hi] at hf' ⊢; omega) ?_
    refine goR hB rfl rfl (by simp [conj, hi]) ?_
    refine run_callC (secR_hc S Bk P L cap (by omega) es[0].2) named hB [0] rfl rfl rfl rfl (by simp [conj]) (by simp [conj, less_rfl, ren_ldr, hi]) ?_
    rintro ⟨⟩ _
    refine ⟨show 1 ≤ 1 by omega, _, _, _, rfl, rfl, rfl, ?_⟩
    refine goR hB rfl rfl (by simp [conj, hi]) ?_
    cases hb : busy L es[0] with
    | true =>
      have hbad := (appG_bad (L0 := L) es L 0 hi hok).2 hf hb
      unfold busy at hb
      rw [Bool.and_eq_true] at hb
      have hp0 : 0 ≤ es[0].2 := by
        obtain ⟨y, hy, e⟩ := hasP_iff.1 hb.1
        have := (hX.rg y hy).2.2.1
        omega
      refine run_condT rfl (by simp [hi, hb.1, hp0]; first | exact ⟨hp0, by simpa using hb.2⟩ | simpa using hb.2) ?_
      refine goR hB rfl rfl (by simp [conj]) ?_
      refine run_retC hpin false (isNew_bad (by decide) hbad).symm [0, 1] rfl rfl (by simp [conj]) rfl ?_
      rw [hbad]
      simp [conj, less_rfl, ren_ldr]
    | false =>
    have hb' := hb
    unfold busy at hb'
    refine run_condF rfl (by
      cases hp : hasP L es[0].2 with
      | false => simp [hi, hp]
      | true => rw [hp] at hb'; simp [hi, hp]; simp at hb'; exact fun _ => hb') ?_
    have hW := hX.without es[0].1
    have hlW := len_le' hW (by omega)
    have hset : setL L es[0] = if 0 ≤ es[0].2 then ins es[0] (without L es[0].1) else without L es[0].1 := rfl
    have hb0 : busy (stL L es 0) es[0] = false := hb
    have hok1 : okTo S Bk P L es 1 := fun j hj hji => by
      have : j = 0 := by omega
      subst this; exact ⟨hf, hb0⟩
    have hst1 : stL L es 1 = setL L es[0] := stL_succ L hi
    apply run_share (B := B) (fun N TD => ⟨⟨fid 16, N, [(7, i64 ((1 : Nat) : Int)), (1, .sq 1 off 0 2 es.length .no), (2, .ptr 2 0), (4, .ptr 3 0), (5, i64 0), (6, .ptr 4 0)], TD⟩, [], [(2, .cells (rfL S Bk P 0 L.length .no) 38), (3, .cells [i64 0, i64 0, i64 0, .nilsl] 38), (4, .cells (rfL S Bk P 5 (stL L es 1).length .own) 38), (5, .row 0 (stL L es 1).length (stL L es 1).length 2 (ldr (stL L es 1)) 54)], 6⟩)
    · intro next
      rw [hst1] at next
      refine goR hB rfl rfl (by simp [conj, hi]) ?_
      refine run_callC (withoutR_hc S Bk P L cap (by omega) es[0].1) named hB [0] rfl rfl rfl rfl (by simp [conj]) (by simp [conj, less_rfl, ren_ldr, hi]) ?_
      rintro ⟨⟩ _
      refine ⟨show 1 ≤ 2 by omega, _, _, _, rfl, rfl, rfl, ?_⟩
      refine goR hB rfl rfl (by simp [conj, hi]) ?_
      refine run_cond rfl (fun h0 => ?_) (fun h0 => ?_)
      · have h0 : 0 ≤ es[0].2 := by simpa [hi] using h0
        rw [if_pos h0] at hset
        refine goR hB rfl rfl (by simp [conj, hi]) ?_
        refine run_loop ?_
        refine run_inv (ι := Nat) hpin (fun k => k ≤ (without L es[0].1).length ∧ ∀ j (hj : j < (without L es[0].1).length), j < k → (without L es[0].1)[j].1 < es[0].1) (fun k => (without L es[0].1).length - k)
          (fun k => [(11, i64 k), (7, i64 ((0 : Nat) : Int)), (1, .sq 1 off 0 2 es.length .no), (2, .ptr 2 0), (4, .ptr 3 0), (5, i64 0), (6, .ptr 4 0), (8, .ptr 5 0)]) (fun _ => [])
          (fun _ => [(2, .cells (rfL S Bk P 0 L.length .no) 38), (3, .cells [i64 0, i64 0, i64 0, .nilsl] 38), (4, .cells (rfL S Bk P 6 (without L es[0].1).length .own) 38), (5, .cells [i64 es[0].1, i64 es[0].2] 54), (6, .row 0 (without L es[0].1).length (without L es[0].1).length 2 (ldr (without L es[0].1)) 54)]) 7 0 ⟨Nat.zero_le _, fun j hj h => absurd h (Nat.not_lt_zero _)⟩
          [0, 1, 2, 3, 4, 5, 6] rfl rfl (by simp [conj, less_rfl, ren_ldr, renR_ldr, hi]) ?_
        rintro k ⟨k1, k2⟩ ihk
        refine goR hB rfl rfl (by simp [conj]) ?_
        refine run_cond rfl (fun hq => ?_) (fun hq => ?_)
        · have hq1 : k < (without L es[0].1).length := by simp at hq; exact hq.1
          have hq2 : (without L es[0].1)[k].1 < es[0].1 := by
            rw [Bool.and_eq_true] at hq
            have := hq.2
            simp [hq1] at this
            exact this
          have ihk := ihk (k + 1) ⟨by omega, fun j hj hjk => by
            rcases Nat.lt_or_ge j k with q | q
            · exact k2 j hj q
            · have : j = k := by omega
              subst this; exact hq2⟩ (by omega)
          refine goR hB rfl rfl (by simp [conj, Fits_i64]; omega) ?_
          refine run_back ?_
          refine run_to hpin [0, 1, 2, 3, 4, 5, 6] rfl rfl ?_ ihk
          clear ihk
          simp [conj, less_rfl, ren_ldr]
        · clear ihk
          have hins := ins_eq (x := es[0]) (W := without L es[0].1) (k := k) k1 k2 (fun hk h2 => by
            have : (decide ((k : Int) < (without L es[0].1).length) && decide ((without L es[0].1)[k].1 < es[0].1)) = true := by simp [hk, h2]
            simp [hk] at hq
            omega)
          rw [hins] at hset
          refine goR hB rfl rfl ?_ ?_
          · simp [conj, Fits_i64]
            repeat' apply And.intro
            all_goals first | omega | (intro a c _ hc; exact sto_ldr _ _ hc)
          refine run_back ?_
          refine run_to hpin [0, 1, 2, 3, 4, 36] rfl rfl ?_ next
          clear next
          rw [hset]
          simp [conj, less_rfl, ren_ldr, renR_ldr]
          exact ⟨by omega, by omega, fun a c _ hc => Less.of (ldr_ins _ _ k1 a c hc)⟩
      · have h0 : ¬ 0 ≤ es[0].2 := by simpa [hi] using h0
        rw [if_neg h0] at hset
        refine goR hB rfl rfl (by simp [conj, Fits_i64]; try omega) ?_
        refine run_back ?_
        refine run_to hpin [0, 1, 2, 3, 4, 6] rfl rfl ?_ next
        clear next
        rw [hset]
        simp [conj, less_rfl, ren_ldr, renR_ldr]
    · refine run_inv (ι := Nat) hpin (fun i => 1 ≤ i ∧ i ≤ es.length ∧ okTo S Bk P L es i) (fun i => es.length - i)
        (fun i => [(7, i64 (i : Int)), (1, .sq 1 off 0 2 es.length .no), (2, .ptr 2 0), (4, .ptr 3 0), (5, i64 0), (6, .ptr 4 0)]) (fun _ => [])
        (fun i => [(2, .cells (rfL S Bk P 0 L.length .no) 38), (3, .cells [i64 0, i64 0, i64 0, .nilsl] 38), (4, .cells (rfL S Bk P 5 (stL L es i).length .own) 38), (5, .row 0 (stL L es i).length (stL L es i).length 2 (ldr (stL L es i)) 54)]) 6 1 ⟨Nat.le_refl _, by omega, hok1⟩
        [0, 1, 2, 3, 4, 5] rfl rfl (by simp [conj, less_rfl, ren_ldr]) ?_
      rintro i ⟨h1, h2, hok⟩ ih
      clear hf hf' hir hb hb' hW hlW hset hb0 hst1
      have hX := okTo.inv hL h2 hok
      refine goR hB rfl rfl (by simp [conj]) ?_
      refine run_cond rfl (fun h => ?_) (fun h => ?_)
      · have hi : i < es.length := by simpa using h
        refine goR hB rfl rfl (by simp [conj, hi, Fits_i64]; omega) ?_
        have hlX := len_le' hX (by omega)
        cases hf : fits1 S Bk P es[i] with
        | false =>
          have hbad := (appG_bad (L0 := L) es L i hi hok).1 hf
          have hf' : fitsB S Bk P es[i].1 es[i].2 = false := hf
          refine run_condT rfl (by simp [fitsB, hi] at hf' ⊢; omega) ?_
          refine goR hB rfl rfl (by simp [conj]) ?_
          refine run_retC hpin false (isNew_bad (by decide) hbad).symm [0, 1] rfl rfl (by simp [conj]) rfl ?_
          rw [hbad]
          simp [conj, less_rfl, ren_ldr]
        | true =>
        have hf' : fitsB S Bk P es[i].1 es[i].2 = true := hf
        have hir := fits_iff.1 hf
        refine run_condF rfl (by simp [fitsB, hi] at hf' ⊢; omega) ?_
        refine goR hB rfl rfl (by simp [conj, hi]) ?_
        refine run_callC (secR_hc S Bk P (stL L es i) ((stL L es i)).length (by omega) es[i].2) named hB [5] rfl rfl rfl rfl (by simp [conj]) (by simp [conj, less_rfl, ren_ldr, hi]) ?_
        rintro ⟨⟩ _
        refine ⟨show 1 ≤ 1 by omega, _, _, _, rfl, rfl, rfl, ?_⟩
        refine goR hB rfl rfl (by simp [conj, hi]) ?_
        cases hb : busy (stL L es i) es[i] with
        | true =>
          have hbad := (appG_bad (L0 := L) es L i hi hok).2 hf hb
          unfold busy at hb
          rw [Bool.and_eq_true] at hb
          have hp0 : 0 ≤ es[i].2 := by
            obtain ⟨y, hy, e⟩ := hasP_iff.1 hb.1
            have := (hX.rg y hy).2.2.1
            omega
          refine run_condT rfl (by simp [hi, hb.1, hp0]; first | exact ⟨hp0, by simpa using hb.2⟩ | simpa using hb.2) ?_
          refine goR hB rfl rfl (by simp [conj]) ?_
          refine run_retC hpin false (isNew_bad (by decide) hbad).symm [0, 1] rfl rfl (by simp [conj]) rfl ?_
          rw [hbad]
          simp [conj, less_rfl, ren_ldr]
        | false =>
        have hb' := hb
        unfold busy at hb'
        refine run_condF rfl (by
          cases hp : hasP (stL L es i) es[i].2 with
          | false => simp [hi, hp]
          | true => rw [hp] at hb'; simp [hi, hp]; simp at hb'; exact fun _ => hb') ?_
        have hW := hX.without es[i].1
        have hlW := len_le' hW (by omega)
        have hset : setL (stL L es i) es[i] = if 0 ≤ es[i].2 then ins es[i] (without (stL L es i) es[i].1) else without (stL L es i) es[i].1 := rfl
        have hok2 : okTo S Bk P L es (i + 1) := fun j hj hji => by
          rcases Nat.lt_or_ge j i with q | q
          · exact hok j hj q
          · have : j = i := by omega
            subst this; exact ⟨hf, hb⟩
        have next := ih (i + 1) ⟨by omega, by omega, hok2⟩ (by omega)
        rw [stL_succ L hi] at next
        clear ih
        refine goR hB rfl rfl (by simp [conj, hi]) ?_
        refine run_callC (withoutR_hc S Bk P (stL L es i) ((stL L es i)).length (by omega) es[i].1) named hB [5] rfl rfl rfl rfl (by simp [conj]) (by simp [conj, less_rfl, ren_ldr, hi]) ?_
        rintro ⟨⟩ _
        refine ⟨show 1 ≤ 2 by omega, _, _, _, rfl, rfl, rfl, ?_⟩
        refine goR hB rfl rfl (by simp [conj, hi]) ?_
        refine run_cond rfl (fun h0 => ?_) (fun h0 => ?_)
        · have h0 : 0 ≤ es[i].2 := by simpa [hi] using h0
          rw [if_pos h0] at hset
          refine goR hB rfl rfl (by simp [conj, hi]) ?_
          refine run_loop ?_
          refine run_inv (ι := Nat) hpin (fun k => k ≤ (without (stL L es i) es[i].1).length ∧ ∀ j (hj : j < (without (stL L es i) es[i].1).length), j < k → (without (stL L es i) es[i].1)[j].1 < es[i].1) (fun k => (without (stL L es i) es[i].1).length - k)
            (fun k => [(11, i64 k), (7, i64 ((i : Nat) : Int)), (1, .sq 1 off 0 2 es.length .no), (2, .ptr 2 0), (4, .ptr 3 0), (5, i64 0), (6, .ptr 4 0), (8, .ptr 5 0)]) (fun _ => [])
            (fun _ => [(2, .cells (rfL S Bk P 0 L.length .no) 38), (3, .cells [i64 0, i64 0, i64 0, .nilsl] 38), (4, .cells (rfL S Bk P 6 (without (stL L es i) es[i].1).length .own) 38), (5, .cells [i64 es[i].1, i64 es[i].2] 54), (6, .row 0 (without (stL L es i) es[i].1).length (without (stL L es i) es[i].1).length 2 (ldr (without (stL L es i) es[i].1)) 54)]) 7 0 ⟨Nat.zero_le _, fun j hj h => absurd h (Nat.not_lt_zero _)⟩
            [0, 1, 2, 3, 4, 6, 7] rfl rfl (by simp [conj, less_rfl, ren_ldr, renR_ldr, hi]) ?_
          rintro k ⟨k1, k2⟩ ihk
          refine goR hB rfl rfl (by simp [conj]) ?_
          refine run_cond rfl (fun hq => ?_) (fun hq => ?_)
          · have hq1 : k < (without (stL L es i) es[i].1).length := by simp at hq; exact hq.1
            have hq2 : (without (stL L es i) es[i].1)[k].1 < es[i].1 := by
              rw [Bool.and_eq_true] at hq
              have := hq.2
              simp [hq1] at this
              exact this
            have ihk := ihk (k + 1) ⟨by omega, fun j hj hjk => by
              rcases Nat.lt_or_ge j k with q | q
              · exact k2 j hj q
              · have : j = k := by omega
                subst this; exact hq2⟩ (by omega)
            refine goR hB rfl rfl (by simp [conj, Fits_i64]; omega) ?_
            refine run_back ?_
            refine run_to hpin [0, 1, 2, 3, 4, 5, 6] rfl rfl ?_ ihk
            clear ihk
            simp [conj, less_rfl, ren_ldr]
          · clear ihk
            have hins := ins_eq (x := es[i]) (W := without (stL L es i) es[i].1) (k := k) k1 k2 (fun hk h2 => by
              have : (decide ((k : Int) < (without (stL L es i) es[i].1).length) && decide ((without (stL L es i) es[i].1)[k].1 < es[i].1)) = true := by simp [hk, h2]
              simp [hk] at hq
              omega)
            rw [hins] at hset
            refine goR hB rfl rfl ?_ ?_
            · simp [conj, Fits_i64]
              repeat' apply And.intro
              all_goals first | omega | (intro a c _ hc; exact sto_ldr _ _ hc)
            refine run_back ?_
            refine run_to hpin [0, 1, 2, 3, 4, 36] rfl rfl ?_ next
            clear next
            rw [hset]
            simp [conj, less_rfl, ren_ldr, renR_ldr]
            exact ⟨by omega, by omega, fun a c _ hc => Less.of (ldr_ins _ _ k1 a c hc)⟩
        · have h0 : ¬ 0 ≤ es[i].2 := by simpa [hi] using h0
          rw [if_neg h0] at hset
          refine goR hB rfl rfl (by simp [conj, Fits_i64]; try omega) ?_
          refine run_back ?_
          refine run_to hpin [0, 1, 2, 3, 4, 7] rfl rfl ?_ next
          clear next
          rw [hset]
          simp [conj, less_rfl, ren_ldr, renR_ldr]
      · clear ih
        have hi : i = es.length := by simp at h; omega
        subst hi
        have hend := appG_end (L0 := L) es L hok
        have hnew : isNew S Bk P L es = true := by
          unfold isNew; rw [hend]
          have : es ≠ [] := by rintro rfl; simp at h1
          simp [this]
        refine goR hB rfl rfl (by simp [conj]) ?_
        refine run_retC hpin true hnew.symm [0, 1, 5] rfl rfl (by simp [conj]) rfl ?_
        rw [hend]
        simp [conj, less_rfl, ren_ldr]
  · have he : es = [] := by
      cases es with
      | nil => rfl
      | cons a r => simp at h
    subst he
    refine goR hB rfl rfl (by simp [conj]) ?_
    refine run_retC hpin false (by simp [isNew]) [0, 1] rfl rfl (by simp [conj]) rfl ?_
    simp [conj, less_rfl, ren_ldr, appG]
end Sx
