/- Package reserve: the victims of a preemption. Conditions: as each theorem says. -/
import Derived.Test.YtmnlmghchegjaaaRwc
set_option linter.unusedSimpArgs false
set_option linter.unusedVariables false
namespace Sx
open Go Go.Proofs
set_option maxRecDepth 100000
set_option pp.deepTerms true
set_option pp.maxSteps 10000000
def vicP (v : Int → Int) (host other : Int) (all : Bool) (x : Int) : Bool := !decide (x = host) && (all || decide (v x = other))
def vic (v : Int → Int) (host other : Int) (all : Bool) (l : List Int) : List Int := l.filter (vicP v host other all)
theorem victims_hc (h : Int → Bool) (v : Int → Int) (l : List Int) (hk : KeysOf h l) (hl : l.length < 129) (host other : Int) (all : Bool) :
    HC Try.prog 73 [.mp 0, .clo (.func 74) [] [.ptr 1 0, .ptr 2 0, .ptr 3 0, .ptr 5 0]] [(0, kmap h v)] [(1, .cells [u64 host] 23), (2, .cells [.sb all] 4), (3, .cells [.ptr 4 0] 25), (4, .cells [.und, .mp 0, .und, .und, .und, .und] 46), (5, .cells [u64 other] 23)] 6 (fun _ : Unit => True)
      (fun _ => ⟨.sq 6 0 0 1 (vic v host other all l).length .own, [(0, kmap h v), (6, .row 0 (vic v host other all l).length (vic v host other all l).length 1 (fnr (lsD (vic v host other all l))) 23)], 7⟩) := by
  refine hc_of_run Try.func73 rfl (fun B hB hpin => ?_)
  refine goK hB rfl rfl (by simp [conj, isPt25]) ?_
  refine run_callC (sortedN_hc h v l hk hl) named hB [6, 0] rfl rfl rfl rfl (by simp [conj]) (by simp [conj, less_rfl]) ?_
  rintro ⟨⟩ _
  refine ⟨show 2 ≤ 3 by omega, _, _, _, rfl, rfl, rfl, ?_⟩
  refine goK hB rfl rfl (by simp [conj]) ?_
  refine run_loop ?_
  have hfl : vic v host other all l = (l.take l.length).filter (vicP v host other all) := by rw [List.take_length]; rfl
  rw [hfl]
  generalize hp : vicP v host other all = p
  refine run_inv (ι := Nat) hpin (fun i => i ≤ l.length) (fun i => l.length - i) (fun i => [(11, i64 i), (10, i64 l.length), (9, .sq 6 0 0 1 l.length .own), (4, .sq 7 0 0 1 ((l.take i).filter p).length .own), (1, .clo (.func 74) [] [.ptr 1 0, .ptr 2 0, .ptr 3 0, .ptr 5 0])]) (fun _ => []) (fun i => [(0, kmap h v), (6, .row 0 l.length l.length 1 (fnr (lsD l)) 23), (7, .row 0 ((l.take i).filter p).length ((l.take i).filter p).length 1 (fnr (lsD ((l.take i).filter p))) 23)]) 8 0 (Nat.zero_le _)
    [0, 1, 2, 3, 4, 5, 7, 8] rfl rfl (by
      simp [conj, less_rfl, ren_rowL, ren_fnr]
      exact fun i _ => Less.of (rowL_lsD l i)) ?_
  intro i hi ih
  refine goK hB rfl rfl (by simp [conj]) ?_
  refine run_cond rfl (fun hh => ?_) (fun hh => ?_)
  · have hi1 : i < l.length := by simpa using hh
    have ih := ih (i + 1) (by omega) (by omega)
    have e1 := fl_take p l i hi1
    have hm : h (lsD l i) = true := (hk.2 _).1 (lsD_mem l i hi1)
    have hlen := len_filter p l i
    have e0 : 0 + ((i : Nat) : Int).toNat = i := by omega
    generalize (l.take i).filter p = L at e1 hlen ⊢
    refine goK hB rfl rfl (by simp [conj, isPt25, isMp44, isBo4]; exact ⟨fun a b => ⟨a, b⟩, hi1⟩) ?_
    rw [e0, hm]
    have hpx : p (lsD l i) = (!decide (lsD l i = host) && (all || decide (v (lsD l i) = other))) := by rw [← hp]; rfl
    refine run_cond rfl (fun hq => ?_) (fun hq => ?_)
    · have hq' : p (lsD l i) = true := hpx.trans hq
      rw [if_pos hq'] at e1
      rw [e1] at ih
      refine goK hB rfl rfl (by simp [conj, Fits_i64]; try omega) ?_
      refine run_back ?_
      refine run_to hpin [0, 1, 2, 3, 4, 5, 6, 26] rfl rfl ?_ ih
      clear ih
      simp [conj, less_rfl, ren_fnr]
      exact fun j hj => Less.of (app_fnr2 _ _ _ hj).symm
    · have hq' : ¬ p (lsD l i) = true := by
        rw [hpx]
        intro h'
        rw [show (!decide (lsD l i = host) && (all || decide (v (lsD l i) = other))) = false from hq] at h'
        cases h'
      rw [if_neg hq'] at e1
      rw [e1] at ih
      refine goK hB rfl rfl (by simp [conj, Fits_i64]; try omega) ?_
      refine run_back ?_
      refine run_to hpin [0, 1, 2, 3, 4, 5, 6, 7] rfl rfl ?_ ih
      clear ih
      simp [conj, less_rfl, ren_fnr]
  · clear ih
    have : i = l.length := by simp at hh; omega
    subst this
    refine goK hB rfl rfl (by simp [conj]) ?_
    refine run_retC hpin () trivial [0, 1, 2, 3, 4, 5, 7] rfl rfl (by simp [conj]) rfl ?_
    simp [conj, less_rfl, ren_fnr]
end Sx
