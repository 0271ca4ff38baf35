/- choose: the class of a pick. Conditions: as each theorem says. -/
import Derived.Test.YtkoeikjcnancdaaAf
set_option linter.unusedSimpArgs false
set_option linter.unusedVariables false
namespace Sx
open Go Go.Proofs
set_option maxRecDepth 100000
def modeD (s : SumL) : Mode := { st := true, unr := true, inl := fun f => !hasN f [31, 51, 52], sum := sumOf s, keep := fun _ => none }
theorem goD {B : Base} (hB : B.ok) {ro : Hp} {f : FuncId} {R : Ending → World → Prop} {s : SumL} (hs : SumOk Try.prog (sumOf s)) {cs0 cs : List Prop} {c c0 c' : Cfg} (h0 : stepD Try.prog (modeD s) ro c = some (cs0, c0)) (h : execG Try.prog (modeD s) ro 400 cs0 c0 = (cs, c')) (hc : conj cs)
    (hr : Run Try.prog ro B f R c') : Run Try.prog ro B f R c := run_go mixed named hB hs 400 h0 h hc hr
def anyC (p : Int → Bool) : Bool := p 1 || p 2 || p 3
/-- slices.ContainsFunc(order, waits). -/
theorem any31_hc (s : ASt) (l : List Int) (cap : Nat) (hl : l.length < 1000000) :
    HC Try.prog 53 [.sq 7 0 0 1 3 .no, waitsV] (wG s l cap) [] 8 (fun _ : Unit => True) (fun _ => ⟨.sb (anyC (waits s l)), wG s l cap, 8⟩) := by
  refine hc_of_run Try.func53 rfl (fun B hB hpin => ?_)
  refine goD hB s1_ok rfl rfl (by simp [conj]) ?_
  refine run_condT rfl (by decide) ?_
  refine goD hB s1_ok rfl rfl (by simp [conj]) ?_
  refine run_callC (waits_hc s l cap hl 1) named hB [0, 1, 2, 3, 4] rfl rfl rfl rfl (by simp [conj]) (by simp [conj, less_rfl, ren_nr, renR_nr]) ?_
  rintro ⟨⟩ _
  refine ⟨show 5 ≤ 5 by omega, _, _, _, rfl, rfl, rfl, ?_⟩
  refine goD hB s1_ok rfl rfl (by simp [conj]) ?_
  refine run_cond rfl (fun h1 => ?_) (fun h1 => ?_)
  · refine goD hB s1_ok rfl rfl (by simp [conj]) ?_
    exact run_retC hpin () trivial [0, 1, 2, 3, 4, 5, 6, 7] rfl rfl (by simp [conj]) rfl (by simp [conj, less_rfl, ren_nr, renR_nr, anyC, h1])
  refine goD hB s1_ok rfl rfl (by simp [conj, Fits_i64]) ?_
  refine run_condT rfl (by decide) ?_
  refine goD hB s1_ok rfl rfl (by simp [conj]) ?_
  refine run_callC (waits_hc s l cap hl 2) named hB [0, 1, 2, 3, 4] rfl rfl rfl rfl (by simp [conj]) (by simp [conj, less_rfl, ren_nr, renR_nr]) ?_
  rintro ⟨⟩ _
  refine ⟨show 5 ≤ 5 by omega, _, _, _, rfl, rfl, rfl, ?_⟩
  refine goD hB s1_ok rfl rfl (by simp [conj]) ?_
  refine run_cond rfl (fun h2 => ?_) (fun h2 => ?_)
  · refine goD hB s1_ok rfl rfl (by simp [conj]) ?_
    exact run_retC hpin () trivial [0, 1, 2, 3, 4, 5, 6, 7] rfl rfl (by simp [conj]) rfl (by simp [conj, less_rfl, ren_nr, renR_nr, anyC, h1, h2])
  refine goD hB s1_ok rfl rfl (by simp [conj, Fits_i64]) ?_
  refine run_condT rfl (by decide) ?_
  refine goD hB s1_ok rfl rfl (by simp [conj]) ?_
  refine run_callC (waits_hc s l cap hl 3) named hB [0, 1, 2, 3, 4] rfl rfl rfl rfl (by simp [conj]) (by simp [conj, less_rfl, ren_nr, renR_nr]) ?_
  rintro ⟨⟩ _
  refine ⟨show 5 ≤ 5 by omega, _, _, _, rfl, rfl, rfl, ?_⟩
  refine goD hB s1_ok rfl rfl (by simp [conj]) ?_
  refine run_cond rfl (fun h3 => ?_) (fun h3 => ?_)
  · refine goD hB s1_ok rfl rfl (by simp [conj]) ?_
    exact run_retC hpin () trivial [0, 1, 2, 3, 4, 5, 6, 7] rfl rfl (by simp [conj]) rfl (by simp [conj, less_rfl, ren_nr, renR_nr, anyC, h1, h2, h3])
  refine goD hB s1_ok rfl rfl (by simp [conj, Fits_i64]) ?_
  refine run_condF rfl (by decide) ?_
  refine goD hB s1_ok rfl rfl (by simp [conj]) ?_
  exact run_retC hpin () trivial [0, 1, 2, 3, 4, 5, 6, 7] rfl rfl (by simp [conj]) rfl (by simp [conj, less_rfl, ren_nr, renR_nr, anyC, h1, h2, h3])
def chooseR (s : ASt) (l : List Int) : Int × Bool × ASt :=
  if waits s l 0 then (0, true, s) else if (findC (canP s l)).2 then ((findC (canP s l)).1, true, s) else if anyC (waits s l) then ((findC (canP s.refill l)).1, (findC (canP s.refill l)).2, s.refill) else (0, false, s)
theorem choose_hc (s : ASt) (l : List Int) (cap : Nat) (hl : l.length < 1000000) :
    HC Try.prog 30 [.ptr 0 0, waitsV] (wH s l cap) [] 5 (fun _ : Unit => True) (fun _ => ⟨.tup [i64 (chooseR s l).1, .sb (chooseR s l).2.1], wH (chooseR s l).2.2 l cap, 5⟩) := by
  refine hc_of_run Try.func30 rfl (fun B hB hpin => ?_)
  refine goC hB s1_ok rfl rfl (by simp [conj]) ?_
  refine run_callC (waits_hc s l cap hl 0) named hB [0, 1, 2, 3, 4] rfl rfl rfl rfl (by simp [conj]) (by simp [conj, less_rfl, ren_nr, renR_nr]) ?_
  rintro ⟨⟩ _
  refine ⟨show 5 ≤ 5 by omega, _, _, _, rfl, rfl, rfl, ?_⟩
  refine goC hB s1_ok rfl rfl (by simp [conj]) ?_
  refine run_cond rfl (fun h0 => ?_) (fun h0 => ?_)
  · refine goC hB s1_ok rfl rfl (by simp [conj]) ?_
    refine run_retC hpin () trivial [0, 1, 2, 3, 4] rfl rfl (by simp [conj]) rfl ?_
    rw [show chooseR s l = (0, true, s) by simp [chooseR, h0]]
    simp [conj, less_rfl, ren_nr, renR_nr]
  refine goC hB s1_ok rfl rfl (by simp [conj]) ?_
  refine run_callC (find51_hc s l cap hl) named hB [0, 1, 2, 3, 4, 5, 6, 7] rfl rfl rfl rfl (by simp [conj]) (by simp [conj, less_rfl, ren_nr, renR_nr]) ?_
  rintro ⟨⟩ _
  refine ⟨show 8 ≤ 8 by omega, _, _, _, rfl, rfl, rfl, ?_⟩
  refine goC hB s1_ok rfl rfl (by simp [conj]) ?_
  refine run_cond rfl (fun h1 => ?_) (fun h1 => ?_)
  · refine goC hB s1_ok rfl rfl (by simp [conj]) ?_
    refine run_retC hpin () trivial [0, 1, 2, 3, 4] rfl rfl (by simp [conj]) rfl ?_
    rw [show chooseR s l = ((findC (canP s l)).1, true, s) by simp [chooseR, h0, h1]]
    simp [conj, less_rfl, ren_nr, renR_nr]
  refine goC hB s1_ok rfl rfl (by simp [conj]) ?_
  refine run_callC (any31_hc s l cap hl) named hB [0, 1, 2, 3, 4, 5, 6, 7] rfl rfl rfl rfl (by simp [conj]) (by simp [conj, less_rfl, ren_nr, renR_nr]) ?_
  rintro ⟨⟩ _
  refine ⟨show 8 ≤ 8 by omega, _, _, _, rfl, rfl, rfl, ?_⟩
  refine goC hB s1_ok rfl rfl (by simp [conj]) ?_
  refine run_cond rfl (fun h2 => ?_) (fun h2 => ?_)
  · have h2 : anyC (waits s l) = false := by simpa using h2
    refine goC hB s1_ok rfl rfl (by simp [conj]) ?_
    refine run_retC hpin () trivial [0, 1, 2, 3, 4] rfl rfl (by simp [conj]) rfl ?_
    rw [show chooseR s l = (0, false, s) by simp [chooseR, h0, h1, h2]]
    simp [conj, less_rfl, ren_nr, renR_nr]
  have h2 : anyC (waits s l) = true := by simpa using h2
  refine goC hB s1_ok rfl rfl (by simp [conj]) ?_
  refine run_callC (find51_hc s.refill l cap hl) named hB [0, 1, 2, 3, 4, 5, 6, 7] rfl rfl rfl rfl (by simp [conj]) (by simp [conj, less_rfl, ren_nr, renR_nr, ASt.refill]) ?_
  rintro ⟨⟩ _
  refine ⟨show 8 ≤ 8 by omega, _, _, _, rfl, rfl, rfl, ?_⟩
  refine goC hB s1_ok rfl rfl (by simp [conj]) ?_
  refine run_retC hpin () trivial [0, 1, 2, 3, 4] rfl rfl (by simp [conj]) rfl ?_
  rw [show chooseR s l = ((findC (canP s.refill l)).1, (findC (canP s.refill l)).2, s.refill) by simp [chooseR, h0, h1, h2]]
  simp [conj, less_rfl, ren_nr, renR_nr]
end Sx
