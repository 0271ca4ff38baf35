/- Package reserve: others, holds, Report at any reservation. Conditions: as each theorem says. -/
import Derived.Test.YtmnlmghchegjaaaRwa
set_option linter.unusedSimpArgs false
set_option linter.unusedVariables false
namespace Sx
open Go Go.Proofs
set_option maxRecDepth 100000
set_option pp.deepTerms true
set_option pp.maxSteps 10000000
/-- All but one. -/
def fl (a : Int) (l : List Int) : List Int := l.filter fun x => !decide (x = a)
theorem fl_take (p : Int → Bool) (l : List Int) (i : Nat) (hi : i < l.length) : (l.take (i + 1)).filter p = if p (lsD l i) = true then (l.take i).filter p ++ [lsD l i] else (l.take i).filter p := by
  have e : l.take (i + 1) = l.take i ++ [lsD l i] := by
    rw [List.take_succ_eq_append_getElem hi]
    simp [lsD, hi]
  rw [e, List.filter_append]
  by_cases h : p (lsD l i) = true <;> simp [List.filter_cons, h]
theorem app_fnr (nx : Nat) (sg : List Nat) (L : List Int) (k : Int) (i : Nat) (hi : i < L.length + 1) : appF (renR nx sg (fnr (lsD L))) L.length (fun i k_2 => [SV.int IntKind.u64 k].getD ((0 + i) * 1 + k_2) SV.und) i 0 = fnr (lsD (L ++ [k])) i 0 := by
  rw [renR_fnr]
  unfold appF
  by_cases h : i < L.length
  · have hb : Nat.blt i L.length = true := by simpa [Nat.blt_eq] using h
    rw [hb, cond_true]
    simp [fnr, lsD, List.getElem?_append_left h]
  · have : i = L.length := by omega
    subst this
    have hb : Nat.blt L.length L.length = false := by
      cases hq : Nat.blt L.length L.length with
      | false => rfl
      | true => rw [Nat.blt_eq] at hq; omega
    rw [hb, cond_false]
    simp [fnr, lsD]
theorem app_fnr2 (L : List Int) (k : Int) (i : Nat) (hi : i < L.length + 1) : appF (fnr (lsD L)) L.length (fun i_2 j => [SV.int IntKind.u64 k][i_2 + j]?.getD SV.und) i 0 = fnr (lsD (L ++ [k])) i 0 := by
  have := app_fnr 0 [] L k i hi
  rw [renR_fnr] at this
  rw [← this]
  unfold appF
  simp
theorem len_filter (p : Int → Bool) (l : List Int) (i : Nat) : ((l.take i).filter p).length ≤ l.length := Nat.le_trans (List.length_filter_le _ _) (by rw [List.length_take]; omega)
theorem others_hc (h : Int → Bool) (v : Int → Int) (l : List Int) (hk : KeysOf h l) (hl : l.length < 129) (a : Int) :
    HC Try.prog 53 [.ptr 0 0, u64 a] [(1, .map .u64 h (.ints .u64 v))] [(0, .cells [.und, .mp 1, .und, .und, .und, .und] 46)] 2 (fun _ : Unit => True)
      (fun _ => ⟨.sq 2 0 0 1 (fl a l).length .own, [(1, .map .u64 h (.ints .u64 v)), (2, .row 0 (fl a l).length (fl a l).length 1 (fnr (lsD (fl a l))) 23)], 3⟩) := by
  refine hc_of_run Try.func53 rfl (fun B hB hpin => ?_)
  refine goK hB rfl rfl (by simp [conj, isPt25]) ?_
  refine run_callC (sortedN_hc h v l hk hl) named hB [3, 1] rfl rfl rfl rfl (by simp [conj]) (by simp [conj, less_rfl]) ?_
  rintro ⟨⟩ _
  refine ⟨show 2 ≤ 3 by omega, _, _, _, rfl, rfl, rfl, ?_⟩
  refine goK hB rfl rfl (by simp [conj]) ?_
  refine run_loop ?_
  have hfl : fl a l = (l.take l.length).filter fun x => !decide (x = a) := by rw [List.take_length]; rfl
  rw [hfl]
  generalize hp : (fun x : Int => !decide (x = a)) = p
  have hpx : ∀ x, p x = !decide (x = a) := fun x => by rw [← hp]
  refine run_invK (ι := Nat) hpin (fun i => i ≤ l.length) (fun i => l.length - i) (fun i => [(11, i64 i), (10, i64 l.length), (9, .sq 3 0 0 1 l.length .own), (4, .sq 4 0 0 1 ((l.take i).filter p).length .own), (1, .clo (.func 77) [] [.ptr 2 0])]) (fun _ => [[]]) [] (fun i => [(1, .map .u64 h (.ints .u64 v)), (2, .cells [u64 a] 23), (3, .row 0 l.length l.length 1 (fnr (lsD l)) 23), (4, .row 0 ((l.take i).filter p).length ((l.take i).filter p).length 1 (fnr (lsD ((l.take i).filter p))) 23)]) 5 0 (Nat.zero_le _)
    [0, 1, 2, 4, 5] rfl rfl (by
      simp [conj, less_rfl, ren_rowL, ren_fnr]
      exact fun i _ => Less.of (rowL_lsD l i)) ?_
  intro i hi ih
  refine goK hB rfl rfl (by simp [conj]) ?_
  refine run_cond rfl (fun hh => ?_) (fun hh => ?_)
  · have hi1 : i < l.length := by simpa using hh
    have ih := ih (i + 1) (by omega) (by omega)
    have e1 := fl_take p l i hi1
    have hlen := len_filter p l i
    have e0 : 0 + ((i : Nat) : Int).toNat = i := by omega
    generalize (l.take i).filter p = L at e1 hlen ⊢
    refine goK hB rfl rfl (by simp [conj]; omega) ?_
    rw [e0]
    refine run_cond rfl (fun hq => ?_) (fun hq => ?_)
    · have hq' : p (lsD l i) = true := by rw [hpx]; exact hq
      rw [if_pos hq'] at e1
      rw [e1] at ih
      refine goK hB rfl rfl (by simp [conj, Fits_i64]; try omega) ?_
      refine run_back ?_
      refine run_toK hpin _ [[]] _ [0, 1, 2, 3, 6] rfl rfl ?_ ih
      clear ih
      simp [conj, less_rfl, ren_fnr]
      exact fun j hj => Less.of (app_fnr2 _ _ _ hj).symm
    · have hq' : ¬ p (lsD l i) = true := by
        rw [hpx]
        intro h'
        rw [show (!decide (lsD l i = a)) = true from h'] at hq
        cases hq
      rw [if_neg hq'] at e1
      rw [e1] at ih
      refine goK hB rfl rfl (by simp [conj, Fits_i64]; try omega) ?_
      refine run_back ?_
      refine run_toK hpin _ [[]] _ [0, 1, 2, 3, 4] rfl rfl ?_ ih
      clear ih
      simp [conj, less_rfl, ren_fnr]
  · clear ih
    have : i = l.length := by simp at hh; omega
    subst this
    refine goK hB rfl rfl (by simp [conj]) ?_
    refine run_retC hpin () trivial [0, 1, 4] rfl rfl (by simp [conj]) rfl ?_
    simp [conj, less_rfl, ren_fnr]
/-- Who holds. -/
def hld (h : Int → Bool) (T H a : Int) : Bool := h a && (decide (0 < T) && (decide (5 ≤ T) || decide (H = a)))
theorem holds_hc (h : Int → Bool) (v : Int → Int) (T H a : Int) : HC Try.prog 55 [.ptr 0 0, u64 a] [] [(0, .cells [.und, .mp 1, i64 T, u64 H, .und, .und] 46), (1, .map .u64 h (.ints .u64 v))] 2 (fun _ : Unit => True) (fun _ => ⟨.sb (hld h T H a), [], 2⟩) := by
  refine hc_of_run Try.func55 rfl (fun B hB hpin => ?_)
  refine goK hB rfl rfl (by simp [conj, isPt25, isMp44, isBo4]) ?_
  refine run_split 24 rfl (fun h1 => ?_) (fun h1 => ?_)
  · have h1' : h a = true ∧ 0 < T := by simpa using h1
    refine goK hB rfl rfl (by simp [conj, isPt25, isMp44, isBo4]; try exact h1') ?_
    refine run_retC hpin () trivial [0, 1] rfl rfl (by simp [conj]; try exact h1') rfl ?_
    simp [conj, less_rfl, hld, h1'.1, h1'.2]
  · refine goK hB rfl rfl (by simp [conj, isPt25, isMp44, isBo4]) ?_
    refine run_retC hpin () trivial [0, 1] rfl rfl (by simp [conj]) rfl ?_
    have e : hld h T H a = false := by
      unfold hld
      rw [← Bool.and_assoc, h1, Bool.false_and]
    simp [conj, less_rfl, e]
def rcH (h : Int → Bool) (v : Int → Int) (T H a : Int) (i j : Nat) : RC := ⟨55, [.ptr 0 0, u64 a], [], [(0, .cells [.und, .mp 1, i64 T, u64 H, .und, .und] 46), (1, .map .u64 h (.ints .u64 v))], 2, .sb (hld h T H a), [], 2, [i, j]⟩
theorem rcH_ok (h : Int → Bool) (v : Int → Int) (T H a : Int) (i j : Nat) : RcOk Try.prog (rcH h v T H a i j) := ⟨holds_hc h v T H a, rfl, Nat.le_refl _⟩
/-- The registrations. -/
abbrev regS (h : Int → Bool) (v : Int → Int) (T H : Int) (l : List Int) : List Reg := l.map fun a => (a, v a, hld h T H a)
theorem regD_regS (h : Int → Bool) (v : Int → Int) (T H : Int) (l : List Int) (i : Nat) (hi : i < l.length) : regD (regS h v T H l) i = (lsD l i, v (lsD l i), hld h T H (lsD l i)) := by
  simp [regD, lsD, hi]
theorem fl_none (a : Int) (l : List Int) (h : a ∉ l) : fl a l = l := by
  unfold fl
  rw [List.filter_eq_self]
  intro x hx
  have : x ≠ a := fun e => h (e ▸ hx)
  simp [this]
theorem reportS_hc (h : Int → Bool) (v : Int → Int) (l : List Int) (hk : KeysOf h l) (hl : l.length < 129) (h0 : h 0 = false) (T H G : Int) (p : Bool) :
    HC Try.prog 24 [.ptr 0 0] [(1, .map .u64 h (.ints .u64 v))] [(0, .cells [.und, .mp 1, i64 T, u64 H, .int .u32 G, .sb p] 46)] 2 (fun _ : Unit => True)
      (fun _ => ⟨rep G T p 2 l.length .own, [(1, .map .u64 h (.ints .u64 v)), (2, .row 0 l.length l.length 3 (regR (regS h v T H l)) 82)], 3⟩) := by
  refine hc_of_run Try.func24 rfl (fun B hB hpin => ?_)
  refine goR hB rfl rfl (by simp [conj, isPt25, isMp44]) ?_
  refine run_condF rfl (by simp) ?_
  refine goR hB rfl rfl (by simp [conj, isPt25, isMp44]) ?_
  have ho := others_hc h v l hk hl 0
  rw [fl_none 0 l (fun hm => by rw [hk.2, h0] at hm; cases hm)] at ho
  refine run_callC ho named hB [0, 1] rfl rfl rfl rfl (by simp [conj]) (by simp [conj, less_rfl]) ?_
  rintro ⟨⟩ _
  refine ⟨show 2 ≤ 3 by omega, _, _, _, rfl, rfl, rfl, ?_⟩
  refine goR hB rfl rfl (by simp [conj]) ?_
  refine run_loop ?_
  refine run_inv (ι := Nat) hpin (fun i => i ≤ l.length) (fun i => l.length - i) (fun i => [(25, i64 i), (24, i64 l.length), (23, .sq 4 0 0 1 l.length .own), (3, .ptr 3 0), (2, .ptr 2 0), (0, .ptr 0 0)]) (fun _ => []) (fun i => [(1, .map .u64 h (.ints .u64 v)), (2, .cells [.int .u32 0, i64 0, .ff, .nilsl] 67), (3, .cells (repL G T p 5 i .own) 67), (4, .row 0 l.length l.length 1 (fnr (lsD l)) 23), (5, .row 0 i i 3 (regR (regS h v T H l)) 82)]) 6 0 (Nat.zero_le _)
    [0, 1, 2, 16, 18, 19] rfl rfl (by
      simp [conj, less_rfl, ren_fnr, renR_fnr, ren_regR]) ?_
  intro i hi ih
  refine goR hB rfl rfl (by simp [conj]) ?_
  refine run_cond rfl (fun hh => ?_) (fun hh => ?_)
  · have hi1 : i < l.length := by simpa using hh
    have ih := ih (i + 1) (by omega) (by omega)
    have hm : h (lsD l i) = true := (hk.2 _).1 (lsD_mem l i hi1)
    refine goR hB rfl rfl (by simp [conj]; omega) ?_
    refine run_draw0 mixed (fun t => ?_)
    refine run_drawC (M := modeU []) 1 17 rfl named hB (sumOk_nil _) [(17, rcH h v T H (lsD l i) 0 1)] ⟨rcH_ok h v T H _ 0 1, trivial⟩ rfl rfl rfl rfl rfl rfl ?_ (fun t => ?_)
    · simp [conj, less_rfl, SO.Live, isPt25, isMp44, Fits_i64]
      try omega
    refine run_drawE rfl ?_
    refine goR hB rfl rfl (by simp [conj, Fits_i64]; try omega) ?_
    refine run_back ?_
    refine run_to hpin [0, 1, 2, 3, 4, 20] rfl rfl ?_ ih
    clear ih
    simp [conj, less_rfl, ren_fnr, renR_fnr, ren_regR, renR_regR]
    have hr := regD_regS h v T H l i hi1
    intro j c hj hc
    unfold appF
    by_cases e : j < i
    · rw [blt_true e]; exact Less.rfl
    · have e2 : j = i := by omega
      subst e2
      rw [blt_false e]
      match c, hc with
      | 0, _ => exact Less.of (by simp [regR, hr])
      | 1, _ => exact Less.of (by simp [regR, hr, hm])
      | 2, _ =>
        have e3 : regR (regS h v T H l) j 2 = .sb (hld h T H (lsD l j)) := by
          show SV.sb (regD (regS h v T H l) j).2.2 = _
          rw [hr]
        rw [e3]
        simp only [Nat.sub_self]
        exact fun β u hu => hu
  · clear ih
    have : i = l.length := by simp at hh; omega
    subst this
    refine goR hB rfl rfl (by simp [conj]) ?_
    refine run_retC hpin () trivial [0, 1, 5] rfl rfl (by simp [conj]) rfl ?_
    simp [conj, less_rfl, ren_regR]
end Sx
