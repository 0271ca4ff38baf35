/- Package ana: the members of a group, by increasing identifier. Conditions: as each theorem says. -/
import Derived.Test.YtlpbmlfejiaamaaNt
set_option linter.unusedSimpArgs false
set_option linter.unusedVariables false
namespace Sx
open Go Go.Proofs
set_option maxRecDepth 100000
set_option pp.deepTerms true
set_option pp.maxSteps 10000000
theorem fl_take (p : Int → Bool) (l : List Int) (i : Nat) (hi : i < l.length) : (l.take (i + 1)).filter p = if p (lsD l i) = true then (l.take i).filter p ++ [lsD l i] else (l.take i).filter p := by
  have e : l.take (i + 1) = l.take i ++ [lsD l i] := by
    rw [List.take_succ_eq_append_getElem hi]
    simp [lsD, hi]
  rw [e, List.filter_append]
  by_cases h : p (lsD l i) = true <;> simp [List.filter_cons, h]
theorem len_filter (p : Int → Bool) (l : List Int) (i : Nat) : ((l.take i).filter p).length ≤ l.length := Nat.le_trans (List.length_filter_le _ _) (by rw [List.length_take]; omega)
theorem lsD_mem (l : List Int) (i : Nat) (hi : i < l.length) : lsD l i ∈ l := by
  have e1 : lsD l i = l[i] := by simp [lsD, hi]
  rw [e1]; exact List.getElem_mem hi
/-- The members of a group. -/
def memP (s : GS) (g x : Int) : Bool := decide (grp s x = g)
def mem (s : GS) (g : Int) (l : List Int) : List Int := l.filter (memP s g)
theorem list_hc (s : GS) (l : List Int) (hk : KeysOf s.h l) (hl : l.length < 129) (g : Int) :
    HC Try.prog 50 [.ptr 0 0, i64 g] [(1, mmap s)] [(0, gobj s 1)] 2 (fun _ : Unit => True) (fun _ => ⟨.sq 2 0 0 1 (mem s g l).length .own, [(1, mmap s), (2, .row 0 (mem s g l).length (mem s g l).length 1 (rowL .u32 (mem s g l)) 29)], 3⟩) := by
  refine hc_of_run Try.func50 rfl (fun B hB hpin => ?_)
  refine goK hB rfl rfl (by simp [conj]) ?_
  refine run_callC (sortedN_hc s.h s.v l hk hl) named hB [4, 1] rfl rfl rfl rfl (by simp [conj]) (by simp [conj, less_rfl]) ?_
  rintro ⟨⟩ _
  refine ⟨show 2 ≤ 3 by omega, _, _, _, rfl, rfl, rfl, ?_⟩
  refine goK hB rfl rfl (by simp [conj]) ?_
  refine run_loop ?_
  have hfl : mem s g l = (l.take l.length).filter (memP s g) := by rw [List.take_length]; rfl
  rw [hfl]
  generalize hp : memP s g = p
  refine run_invK (ι := Nat) hpin (fun i => i ≤ l.length) (fun i => l.length - i) (fun i => [(9, i64 i), (8, i64 l.length), (7, .sq 5 0 0 1 l.length .own), (4, .sq 6 0 0 1 ((l.take i).filter p).length .own), (1, .clo (.func 77) [] [.ptr 2 0, .ptr 3 0])]) (fun _ => [[]]) [] (fun i => [(1, mmap s), (5, .row 0 l.length l.length 1 (rowL .u32 l) 29), (6, .row 0 ((l.take i).filter p).length ((l.take i).filter p).length 1 (rowL .u32 ((l.take i).filter p)) 29), (3, .cells [i64 g] 3), (2, .cells [.ptr 0 0] 23)]) 7 0 (Nat.zero_le _)
    [0, 1, 2, 3, 4, 5, 6] rfl rfl (by
      simp [conj, less_rfl, ren_rowL, renR_rowL, ren_rG]) ?_
  intro i hi ih
  refine goK hB rfl rfl (by simp [conj]) ?_
  refine run_cond rfl (fun hh => ?_) (fun hh => ?_)
  · have hi1 : i < l.length := by simpa using hh
    have ih := ih (i + 1) (by omega) (by omega)
    have e1 := fl_take p l i hi1
    have hm : s.h (lsD l i) = true := (hk.2 _).1 (lsD_mem l i hi1)
    have hlen := len_filter p l i
    have e0 : 0 + ((i : Nat) : Int).toNat = i := by omega
    generalize (l.take i).filter p = L at e1 hlen ⊢
    refine goK hB rfl rfl (by simp [conj, isPt23, isBo4] <;> omega) ?_
    rw [e0]
    have hpx : p (lsD l i) = decide ((bif s.h (l.getD i 0) then s.v (l.getD i 0) else 0) = g) := by rw [← hp]; rfl
    refine run_cond rfl (fun hq => ?_) (fun hq => ?_)
    · have hq' : p (lsD l i) = true := hpx.trans hq
      rw [if_pos hq'] at e1
      rw [e1] at ih
      refine goK hB rfl rfl (by simp [conj, Fits_i64] <;> omega) ?_
      refine run_back ?_
      refine run_to hpin [0, 1, 2, 3, 4, 5, 17] rfl rfl ?_ ih
      clear ih
      simp [conj, less_rfl, ren_rowL, ren_rG]
      clear hfl
      exact fun j hj => Less.of (app_rowL L _ j hj)
    · have hq' : ¬ p (lsD l i) = true := by
        rw [hpx]
        intro h'
        rw [show decide ((bif s.h (l.getD i 0) then s.v (l.getD i 0) else 0) = g) = false from hq] at h'
        cases h'
      rw [if_neg hq'] at e1
      rw [e1] at ih
      refine goK hB rfl rfl (by simp [conj, Fits_i64] <;> omega) ?_
      refine run_back ?_
      refine run_to hpin [0, 1, 2, 3, 4, 5, 6] rfl rfl ?_ ih
      clear ih
      simp [conj, less_rfl, ren_rowL, ren_rG]
  · clear ih
    have : i = l.length := by simp at hh; omega
    subst this
    refine goK hB rfl rfl (by simp [conj]) ?_
    refine run_retC hpin () trivial [0, 1, 6] rfl rfl (by simp [conj]) rfl ?_
    simp [conj, less_rfl, ren_rowL, ren_rG]
end Sx
