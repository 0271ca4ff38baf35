/- choose: the class of a pick. Conditions: as each theorem says. -/
import Derived.Test.YtkoeikjcnancdaaAe
set_option linter.unusedSimpArgs false
set_option linter.unusedVariables false
namespace Sx
open Go Go.Proofs
set_option maxRecDepth 100000
def wH (s : ASt) (l : List Int) (cap : Nat) : Hp := [(0, .cells (objL s 1) 70), (1, .map .i64 s.h (.ints .i64 s.v)), (2, .cells [.ptr 0 0] 25), (3, .cells [.sq 4 0 0 1 l.length .no] 39), (4, .row 0 l.length cap 1 (lr l) 3)]
def waits (s : ASt) (l : List Int) (c : Int) : Bool := l.any fun q => decide (s.cls q = c)
theorem waits_hc (s : ASt) (l : List Int) (cap : Nat) (hl : l.length < 1000000) (c : Int) :
    HC Try.prog 31 [i64 c, .ptr 3 0, .ptr 2 0] (wH s l cap) [] 5 (fun _ : Unit => True) (fun _ => ⟨.sb (waits s l c), wH s l cap, 5⟩) := by
  refine hc_of_run Try.func31 rfl (fun B hB hpin => ?_)
  refine goK hB s1_ok rfl rfl (by simp [conj]) ?_
  refine run_callC (any33_hc s c l cap hl) named hB [0, 1, 2, 5, 4] rfl rfl rfl rfl (by simp [conj]) (by simp [conj, less_rfl, ren_nr, renR_nr]) ?_
  rintro ⟨⟩ _
  refine ⟨show 5 ≤ 5 by omega, _, _, _, rfl, rfl, rfl, ?_⟩
  refine goK hB s1_ok rfl rfl (by simp [conj]) ?_
  exact run_retC hpin () trivial [0, 1, 2, 3, 4] rfl rfl (by simp [conj]) rfl (by simp [conj, less_rfl, ren_nr, renR_nr, waits])
abbrev waitsV : SV := .clo (.func 31) [] [.ptr 3 0, .ptr 2 0]
def wF (s : ASt) (l : List Int) (cap : Nat) : Hp := [(0, .cells (objL s 1) 70), (1, .map .i64 s.h (.ints .i64 s.v)), (2, .cells [.ptr 0 0] 25), (3, .cells [.sq 4 0 0 1 l.length .no] 39), (4, .row 0 l.length cap 1 (lr l) 3), (5, .cells [.ptr 0 0] 25), (6, .cells [waitsV] 87)]
def canP (s : ASt) (l : List Int) (c : Int) : Bool := decide (0 < s.cred c) && waits s l c
def C3 (c : Int) : Prop := c = 1 ∨ c = 2 ∨ c = 3
theorem can_hc (s : ASt) (l : List Int) (cap : Nat) (hl : l.length < 1000000) (c : Int) (hc : C3 c) :
    HC Try.prog 51 [i64 c, .ptr 5 0, .ptr 6 0] (wF s l cap) [] 7 (fun _ : Unit => True) (fun _ => ⟨.sb (canP s l c), wF s l cap, 7⟩) := by
  have hw := waits_hc s l cap hl c
  rcases hc with rfl | rfl | rfl
  all_goals
    refine hc_of_run Try.func51 rfl (fun B hB hpin => ?_)
    refine goK hB s1_ok rfl rfl (by simp [conj]) ?_
    refine run_split 12 rfl (fun h => ?_) (fun h => ?_)
    · refine run_callC hw named hB [0, 1, 2, 3, 4] rfl rfl rfl rfl (by simp [conj]; simpa using h) (by simp [conj, less_rfl, ren_nr, renR_nr]) ?_
      rintro ⟨⟩ _
      refine ⟨show 5 ≤ 5 by omega, _, _, _, rfl, rfl, rfl, ?_⟩
      refine goK hB s1_ok rfl rfl (by simp [conj]) ?_
      refine run_retC hpin () trivial [0, 1, 2, 3, 4, 5, 6] rfl rfl (by simp [conj]) rfl (by simp at h; simp [conj, less_rfl, ren_nr, renR_nr, canP, ASt.cred, h])
    · refine goK hB s1_ok rfl rfl (by simp [conj]) ?_
      refine run_retC hpin () trivial [0, 1, 2, 3, 4, 5, 6] rfl rfl (by simp [conj]) rfl (by simp at h; simp [conj, less_rfl, ren_nr, renR_nr, canP, ASt.cred]; omega)
def wG (s : ASt) (l : List Int) (cap : Nat) : Hp := wF s l cap ++ [(7, .cells [i64 1, i64 2, i64 3] 33)]
def modeC (s : SumL) : Mode := { st := true, unr := true, inl := fun f => !hasN f [31, 51, 52, 53, 62], sum := sumOf s, keep := fun _ => none }
theorem goC {B : Base} (hB : B.ok) {ro : Hp} {f : FuncId} {R : Ending → World → Prop} {s : SumL} (hs : SumOk Try.prog (sumOf s)) {cs0 cs : List Prop} {c c0 c' : Cfg} (h0 : stepD Try.prog (modeC s) ro c = some (cs0, c0)) (h : execG Try.prog (modeC s) ro 400 cs0 c0 = (cs, c')) (hc : conj cs)
    (hr : Run Try.prog ro B f R c') : Run Try.prog ro B f R c := run_go mixed named hB hs 400 h0 h hc hr
def firstC (p : Int → Bool) : Int := if p 1 then 0 else if p 2 then 1 else if p 3 then 2 else -1
theorem idx51_hc (s : ASt) (l : List Int) (cap : Nat) (hl : l.length < 1000000) :
    HC Try.prog 62 [.sq 7 0 0 1 3 .no, .clo (.func 51) [] [.ptr 5 0, .ptr 6 0]] (wG s l cap) [] 8 (fun _ : Unit => True) (fun _ => ⟨i64 (firstC (canP s l)), wG s l cap, 8⟩) := by
  refine hc_of_run Try.func62 rfl (fun B hB hpin => ?_)
  refine goC hB s1_ok rfl rfl (by simp [conj]) ?_
  refine run_condT rfl (by decide) ?_
  refine goC hB s1_ok rfl rfl (by simp [conj]) ?_
  refine run_callC (can_hc s l cap hl 1 (.inl rfl)) named hB [0, 1, 2, 3, 4, 5, 6] rfl rfl rfl rfl (by simp [conj]) (by simp [conj, less_rfl, ren_nr, renR_nr]) ?_
  rintro ⟨⟩ _
  refine ⟨show 7 ≤ 7 by omega, _, _, _, rfl, rfl, rfl, ?_⟩
  refine goC hB s1_ok rfl rfl (by simp [conj]) ?_
  refine run_cond rfl (fun h1 => ?_) (fun h1 => ?_)
  · refine goC hB s1_ok rfl rfl (by simp [conj]) ?_
    exact run_retC hpin () trivial [0, 1, 2, 3, 4, 5, 6, 7] rfl rfl (by simp [conj]) rfl (by simp [conj, less_rfl, ren_nr, renR_nr, firstC, h1])
  refine goC hB s1_ok rfl rfl (by simp [conj, Fits_i64]) ?_
  refine run_condT rfl (by decide) ?_
  refine goC hB s1_ok rfl rfl (by simp [conj]) ?_
  refine run_callC (can_hc s l cap hl 2 (.inr (.inl rfl))) named hB [0, 1, 2, 3, 4, 5, 6] rfl rfl rfl rfl (by simp [conj]) (by simp [conj, less_rfl, ren_nr, renR_nr]) ?_
  rintro ⟨⟩ _
  refine ⟨show 7 ≤ 7 by omega, _, _, _, rfl, rfl, rfl, ?_⟩
  refine goC hB s1_ok rfl rfl (by simp [conj]) ?_
  refine run_cond rfl (fun h2 => ?_) (fun h2 => ?_)
  · refine goC hB s1_ok rfl rfl (by simp [conj]) ?_
    exact run_retC hpin () trivial [0, 1, 2, 3, 4, 5, 6, 7] rfl rfl (by simp [conj]) rfl (by simp [conj, less_rfl, ren_nr, renR_nr, firstC, h1, h2])
  refine goC hB s1_ok rfl rfl (by simp [conj, Fits_i64]) ?_
  refine run_condT rfl (by decide) ?_
  refine goC hB s1_ok rfl rfl (by simp [conj]) ?_
  refine run_callC (can_hc s l cap hl 3 (.inr (.inr rfl))) named hB [0, 1, 2, 3, 4, 5, 6] rfl rfl rfl rfl (by simp [conj]) (by simp [conj, less_rfl, ren_nr, renR_nr]) ?_
  rintro ⟨⟩ _
  refine ⟨show 7 ≤ 7 by omega, _, _, _, rfl, rfl, rfl, ?_⟩
  refine goC hB s1_ok rfl rfl (by simp [conj]) ?_
  refine run_cond rfl (fun h3 => ?_) (fun h3 => ?_)
  · refine goC hB s1_ok rfl rfl (by simp [conj]) ?_
    exact run_retC hpin () trivial [0, 1, 2, 3, 4, 5, 6, 7] rfl rfl (by simp [conj]) rfl (by simp [conj, less_rfl, ren_nr, renR_nr, firstC, h1, h2, h3])
  refine goC hB s1_ok rfl rfl (by simp [conj, Fits_i64]) ?_
  refine run_condF rfl (by decide) ?_
  refine goC hB s1_ok rfl rfl (by simp [conj]) ?_
  exact run_retC hpin () trivial [0, 1, 2, 3, 4, 5, 6, 7] rfl rfl (by simp [conj]) rfl (by simp [conj, less_rfl, ren_nr, renR_nr, firstC, h1, h2, h3])
def findC (p : Int → Bool) : Int × Bool := if p 1 then (1, true) else if p 2 then (2, true) else if p 3 then (3, true) else (0, false)
theorem find51_hc (s : ASt) (l : List Int) (cap : Nat) (hl : l.length < 1000000) :
    HC Try.prog 52 [.sq 7 0 0 1 3 .no, .clo (.func 51) [] [.ptr 5 0, .ptr 6 0]] (wG s l cap) [] 8 (fun _ : Unit => True) (fun _ => ⟨.tup [i64 (findC (canP s l)).1, .sb (findC (canP s l)).2], wG s l cap, 8⟩) := by
  refine hc_of_run Try.func52 rfl (fun B hB hpin => ?_)
  refine goC hB s1_ok rfl rfl (by simp [conj]) ?_
  refine run_callC (idx51_hc s l cap hl) named hB [0, 1, 2, 3, 4, 5, 6, 7] rfl rfl rfl rfl (by simp [conj]) (by simp [conj, less_rfl, ren_nr, renR_nr]) ?_
  rintro ⟨⟩ _
  refine ⟨show 8 ≤ 8 by omega, _, _, _, rfl, rfl, rfl, ?_⟩
  generalize canP s l = p
  cases h1 : p 1 with
  | true =>
    rw [show firstC p = 0 by simp [firstC, h1]]
    refine goC hB s1_ok rfl rfl (by simp [conj]) ?_
    refine run_condT rfl (by decide) ?_
    refine goC hB s1_ok rfl rfl (by simp [conj]) ?_
    exact run_retC hpin () trivial [0, 1, 2, 3, 4, 5, 6, 7] rfl rfl (by simp [conj]) rfl (by simp [conj, less_rfl, ren_nr, renR_nr, findC, h1])
  | false => cases h2 : p 2 with
    | true =>
      rw [show firstC p = 1 by simp [firstC, h1, h2]]
      refine goC hB s1_ok rfl rfl (by simp [conj]) ?_
      refine run_condT rfl (by decide) ?_
      refine goC hB s1_ok rfl rfl (by simp [conj]) ?_
      exact run_retC hpin () trivial [0, 1, 2, 3, 4, 5, 6, 7] rfl rfl (by simp [conj]) rfl (by simp [conj, less_rfl, ren_nr, renR_nr, findC, h1, h2])
    | false => cases h3 : p 3 with
      | true =>
        rw [show firstC p = 2 by simp [firstC, h1, h2, h3]]
        refine goC hB s1_ok rfl rfl (by simp [conj]) ?_
        refine run_condT rfl (by decide) ?_
        refine goC hB s1_ok rfl rfl (by simp [conj]) ?_
        exact run_retC hpin () trivial [0, 1, 2, 3, 4, 5, 6, 7] rfl rfl (by simp [conj]) rfl (by simp [conj, less_rfl, ren_nr, renR_nr, findC, h1, h2, h3])
      | false =>
        rw [show firstC p = -1 by simp [firstC, h1, h2, h3]]
        refine goC hB s1_ok rfl rfl (by simp [conj]) ?_
        refine run_condF rfl (by decide) ?_
        refine goC hB s1_ok rfl rfl (by simp [conj]) ?_
        exact run_retC hpin () trivial [0, 1, 2, 3, 4, 5, 6, 7] rfl rfl (by simp [conj]) rfl (by simp [conj, less_rfl, ren_nr, renR_nr, findC, h1, h2, h3])
end Sx
