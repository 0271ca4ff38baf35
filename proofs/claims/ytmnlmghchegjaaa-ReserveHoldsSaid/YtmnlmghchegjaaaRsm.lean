/- others and Report at a reservation that nobody holds. Conditions: as each theorem says. -/
import Derived.Test.YtmnlmghchegjaaaRsl
import Derived.Test.YtmnlmghchegjaaaRj
set_option linter.unusedSimpArgs false
set_option linter.unusedVariables false
namespace Sx
open Go Go.Proofs
set_option maxRecDepth 100000
theorem holds0_hc (h : Int → Bool) (v : Int → Int) (a : Int) (ha : h a = true) : HC Try.prog 55 [.ptr 0 0, u64 a] [] [(0, .cells [.und, .mp 1, i64 0, .und, .und, .und] 46), (1, .map .u64 h (.ints .u64 v))] 2 (fun _ : Unit => True) (fun _ => ⟨.ff, [], 2⟩) := by
  refine hc_of_run Try.func55 rfl (fun B hB hpin => ?_)
  refine goW hB [(55, 15)] 300 rfl (by simp [conj, isPt25, isMp44, isBo4]) ?_
  refine run_tt (by simpa using ha) ?_
  refine goX hB 300 rfl (by simp [conj, isPt25, isMp44, isBo4, Fits_i64] <;> decide +kernel) ?_
  exact run_retC hpin () trivial [0, 1] rfl rfl (by simp [conj]) rfl (by simp [conj, less_rfl])
theorem others0_hc (h : Int → Bool) (v : Int → Int) (l : List Int) (hk : KeysOf h l) (hl : l.length < 129) (h0 : h 0 = false) :
    HC Try.prog 53 [.ptr 0 0, u64 0] [(1, .map .u64 h (.ints .u64 v))] [(0, .cells [.und, .mp 1, .und, .und, .und, .und] 46)] 2 (fun _ : Unit => True)
      (fun _ => ⟨.sq 2 0 0 1 l.length .own, [(1, .map .u64 h (.ints .u64 v)), (2, .row 0 l.length l.length 1 (rowL .u64 l) 23)], 3⟩) := by
  refine hc_of_run Try.func53 rfl (fun B hB hpin => ?_)
  refine goK hB rfl rfl (by simp [conj, isPt25]) ?_
  refine run_callC (sortedN_hc h v l hk hl) named hB [3, 1] rfl rfl rfl rfl (by simp [conj]) (by simp [conj, less_rfl]) ?_
  rintro ⟨⟩ _
  refine ⟨show 2 ≤ 3 by omega, _, _, _, rfl, rfl, rfl, ?_⟩
  refine goK hB rfl rfl (by simp [conj]) ?_
  refine run_loop ?_
  refine run_invK (ι := Nat) hpin (fun i => i ≤ l.length) (fun i => l.length - i) (fun i => [(11, i64 i), (10, i64 l.length), (9, .sq 3 0 0 1 l.length .own), (4, .sq 4 0 0 1 i .own), (1, .clo (.func 77) [] [.ptr 2 0])]) (fun _ => [[]]) [] (fun i => [(1, .map .u64 h (.ints .u64 v)), (2, .cells [u64 0] 23), (3, .row 0 l.length l.length 1 (fnr (lsD l)) 23), (4, .row 0 i i 1 (fnr (lsD l)) 23)]) 5 0 (Nat.zero_le _)
    [0, 1, 2, 4, 5] rfl rfl (by
      simp [conj, less_rfl, ren_rowL, ren_fnr]
      exact fun i _ => Less.of (rowL_lsD l i)) ?_
  intro i hi ih
  refine goK hB rfl rfl (by simp [conj]) ?_
  refine run_cond rfl (fun hh => ?_) (fun hh => ?_)
  · have hi1 : i < l.length := by simpa using hh
    have ih := ih (i + 1) (by omega) (by omega)
    have hne : lsD l i ≠ 0 := fun e => by
      have e1 : lsD l i = l[i] := by simp [lsD, hi1]
      have hm : l[i] ∈ l := List.getElem_mem hi1
      rw [← e1, e, hk.2, h0] at hm
      cases hm
    refine goK hB rfl rfl (by simp [conj]; omega) ?_
    refine run_condT rfl (by simpa using hne) ?_
    refine goK hB rfl rfl (by simp [conj, Fits_i64]; try omega) ?_
    refine run_back ?_
    refine run_toK hpin _ [[]] _ [0, 1, 2, 3, 6] rfl rfl ?_ ih
    clear ih
    simp [conj, less_rfl, ren_fnr, renR_fnr]
    intro j hj
    refine Less.of ?_
    unfold appF
    by_cases e : j < i
    · rw [blt_true e]; rfl
    · have e2 : j = i := by omega
      subst e2
      rw [blt_false e]
      simp [fnr]
  · clear ih
    have : i = l.length := by simp at hh; omega
    subst this
    refine goK hB rfl rfl (by simp [conj]) ?_
    refine run_retC hpin () trivial [0, 1, 4] rfl rfl (by simp [conj]) rfl ?_
    simp [conj, less_rfl, ren_fnr]
    exact fun i _ => Less.of (rowL_lsD l i).symm
def modeR : Mode := { st := true, unr := false, inl := fun f => !hasN f [37, 38, 81, 87, 85, 53], sum := sumOf [], keep := fun _ => none }
theorem goR {B : Base} (hB : B.ok) {ro : Hp} {f : FuncId} {R : Ending → World → Prop} {cs0 cs : List Prop} {c c0 c' : Cfg} (h0 : stepD Try.prog modeR ro c = some (cs0, c0)) (h : execG Try.prog modeR ro 400 cs0 c0 = (cs, c')) (hc : conj cs)
    (hr : Run Try.prog ro B f R c') : Run Try.prog ro B f R c := run_go mixed named hB (sumOk_nil _) 400 h0 h hc hr
def rcH0 (h : Int → Bool) (v : Int → Int) (a : Int) (i j : Nat) : RC := ⟨55, [.ptr 0 0, u64 a], [], [(0, .cells [.und, .mp 1, i64 0, .und, .und, .und] 46), (1, .map .u64 h (.ints .u64 v))], 2, .ff, [], 2, [i, j]⟩
abbrev regL (v : Int → Int) (l : List Int) : List Reg := l.map fun a => (a, v a, false)
theorem regD_regL (v : Int → Int) (l : List Int) (i : Nat) (hi : i < l.length) : regD (regL v l) i = (lsD l i, v (lsD l i), false) := by
  simp [regD, lsD, hi]
theorem lsD_mem (l : List Int) (i : Nat) (hi : i < l.length) : lsD l i ∈ l := by
  have e1 : lsD l i = l[i] := by simp [lsD, hi]
  rw [e1]; exact List.getElem_mem hi
theorem report0_hc (h : Int → Bool) (v : Int → Int) (l : List Int) (hk : KeysOf h l) (hl : l.length < 129) (h0 : h 0 = false) (G : Int) (p : Bool) :
    HC Try.prog 24 [.ptr 0 0] [(1, .map .u64 h (.ints .u64 v))] [(0, .cells [.und, .mp 1, i64 0, .und, .int .u32 G, .sb p] 46)] 2 (fun _ : Unit => True)
      (fun _ => ⟨rep G 0 p 2 l.length .own, [(1, .map .u64 h (.ints .u64 v)), (2, .row 0 l.length l.length 3 (regR (regL v l)) 82)], 3⟩) := by
  refine hc_of_run Try.func24 rfl (fun B hB hpin => ?_)
  refine goR hB rfl rfl (by simp [conj, isPt25, isMp44]) ?_
  refine run_condF rfl (by simp) ?_
  refine goR hB rfl rfl (by simp [conj, isPt25, isMp44]) ?_
  refine run_callC (others0_hc h v l hk hl h0) named hB [0, 1] rfl rfl rfl rfl (by simp [conj]) (by simp [conj, less_rfl]) ?_
  rintro ⟨⟩ _
  refine ⟨show 2 ≤ 3 by omega, _, _, _, rfl, rfl, rfl, ?_⟩
  refine goR hB rfl rfl (by simp [conj]) ?_
  refine run_loop ?_
  refine run_inv (ι := Nat) hpin (fun i => i ≤ l.length) (fun i => l.length - i) (fun i => [(25, i64 i), (24, i64 l.length), (23, .sq 4 0 0 1 l.length .own), (3, .ptr 3 0), (2, .ptr 2 0), (0, .ptr 0 0)]) (fun _ => []) (fun i => [(1, .map .u64 h (.ints .u64 v)), (2, .cells [.int .u32 0, i64 0, .ff, .nilsl] 67), (3, .cells (repL G 0 p 5 i .own) 67), (4, .row 0 l.length l.length 1 (fnr (lsD l)) 23), (5, .row 0 i i 3 (regR (regL v l)) 82)]) 6 0 (Nat.zero_le _)
    [0, 1, 2, 16, 18, 19] rfl rfl (by
      simp [conj, less_rfl, ren_rowL, ren_fnr, ren_regR]
      exact fun i _ => Less.of (rowL_lsD l i)) ?_
  intro i hi ih
  refine goR hB rfl rfl (by simp [conj]) ?_
  refine run_cond rfl (fun hh => ?_) (fun hh => ?_)
  · have hi1 : i < l.length := by simpa using hh
    have ih := ih (i + 1) (by omega) (by omega)
    have hm : h (lsD l i) = true := (hk.2 _).1 (lsD_mem l i hi1)
    refine goR hB rfl rfl (by simp [conj]; omega) ?_
    refine run_draw0 mixed (fun t => ?_)
    refine run_drawC (M := modeU []) 1 17 rfl named hB (sumOk_nil _) [(17, rcH0 h v (lsD l i) 0 1)] ⟨⟨holds0_hc h v _ hm, rfl, Nat.le_refl _⟩, trivial⟩ rfl rfl rfl rfl rfl rfl ?_ (fun t => ?_)
    · simp [conj, less_rfl, SO.Live, isPt25, isMp44, Fits_i64]
      try omega
    refine run_drawE rfl ?_
    refine goR hB rfl rfl (by simp [conj, Fits_i64]; try omega) ?_
    refine run_back ?_
    refine run_to hpin [0, 1, 2, 3, 4, 20] rfl rfl ?_ ih
    clear ih
    simp [conj, less_rfl, ren_fnr, renR_fnr, ren_regR, renR_regR]
    have hr := regD_regL v l i hi1
    intro j c hj hc
    unfold appF
    by_cases e : j < i
    · rw [blt_true e]; exact Less.rfl
    · have e2 : j = i := by omega
      subst e2
      rw [blt_false e]
      match c, hc with
      | 0, _ => exact Less.of (by simp [regR, hr])
      | 1, _ => exact Less.of (by simp [regR, hr, hm])
      | 2, _ =>
        have e3 : regR (regL v l) j 2 = .sb false := by
          show SV.sb (regD (regL v l) j).2.2 = _
          rw [hr]
        rw [e3]
        simp only [Nat.sub_self]
        exact fun β u hu => hu
  · clear ih
    have : i = l.length := by simp at hh; omega
    subst this
    refine goR hB rfl rfl (by simp [conj]) ?_
    refine run_retC hpin () trivial [0, 1, 5] rfl rfl (by simp [conj]) rfl ?_
    simp [conj, less_rfl, ren_regR]
end Sx
