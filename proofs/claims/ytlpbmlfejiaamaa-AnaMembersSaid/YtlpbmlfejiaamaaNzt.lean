/- Package ana: the iterator over the members of a group. Conditions: as each theorem says. -/
import Derived.Test.YtlpbmlfejiaamaaNzr
set_option linter.unusedSimpArgs false
set_option linter.unusedVariables false
namespace Sx
open Go Go.Proofs
set_option maxRecDepth 100000
set_option pp.deepTerms true
set_option pp.maxSteps 10000000
theorem mem_out {s : GS} (hs : GOk s) {l : List Int} (hk : KeysOf s.h l) {g : Int} (hg : ¬ (1 ≤ g ∧ g ≤ s.n)) (h0 : g ≠ 0) : mem s g l = [] := by
  refine List.filter_eq_nil_iff.2 fun a ha => ?_
  have hh := (hk.2 a).1 ha
  have := hs.v0 a hh
  unfold memP grp
  rw [hh]
  simp
  omega
/-- The members that the iterator yields. -/
def mems (s : GS) (g : Int) (l : List Int) : List Int := if 1 ≤ g ∧ g ≤ s.n then mem s g l else []
theorem mems_len (s : GS) (g : Int) (l : List Int) : (mems s g l).length ≤ l.length := by
  unfold mems; split
  · exact List.length_filter_le _ _
  · exact Nat.zero_le _
theorem members_hc (s : GS) (hs : GOk s) (l : List Int) (hk : KeysOf s.h l) (hl : l.length < 129) (g : Int) :
    HC Try.prog 19 [.ptr 0 0, i64 g] (hpG s) [] 2 (fun _ : Unit => True) (fun _ => ⟨.clo (.func 51) [] [.ptr 2 0], [(0, gobj s 1), (1, mmap s), (2, .cells [.sq 3 0 0 1 (mems s g l).length .own] 48), (3, .row 0 (mems s g l).length (mems s g l).length 1 (rowL .u32 (mems s g l)) 29)], 4⟩) := by
  have hn0 := hs.n0
  have hL := list_hc s l hk hl g
  by_cases h0 : 0 < g
  · have e : mem s g l = mems s g l := by
      unfold mems
      by_cases hg : 1 ≤ g ∧ g ≤ s.n
      · rw [if_pos hg]
      · rw [if_neg hg]; exact mem_out hs hk hg (by omega)
    rw [e] at hL
    generalize mems s g l = L at hL
    refine hc_of_run Try.func19 rfl (fun B hB hpin => ?_)
    refine goT hB [(36, 10)] 400 rfl (by simp [conj, isPt23]) ?_
    refine run_ff (by simp; omega) ?_
    refine goT hB [(19, 11)] 400 rfl (by first | exact conj_nil | simp [conj]) ?_
    refine run_tt (by simpa using h0) ?_
    refine goL hB rfl rfl (by first | exact conj_nil | simp [conj]) ?_
    refine run_callC hL named hB [0, 1] rfl rfl rfl rfl (by first | exact conj_nil | simp [conj]) (by simp [conj, less_rfl, ren_rG, renR_rG]) ?_
    rintro ⟨⟩ _
    refine ⟨show 2 ≤ 3 by omega, _, _, _, rfl, rfl, rfl, ?_⟩
    refine goL hB rfl rfl (by first | exact conj_nil | simp [conj]) ?_
    refine run_retC hpin () trivial [0, 1, 2, 3] rfl rfl (by first | exact conj_nil | simp [conj]) rfl ?_
    simp [conj, less_rfl, ren_rG, renR_rG, ren_rowL, renR_rowL]
  · have e : mems s g l = [] := by unfold mems; rw [if_neg (by omega)]
    rw [e]
    refine hc_of_run Try.func19 rfl (fun B hB hpin => ?_)
    refine goT hB [(36, 10)] 400 rfl (by simp [conj, isPt23]) ?_
    refine run_ff (by simp; omega) ?_
    refine goT hB [(19, 11)] 400 rfl (by first | exact conj_nil | simp [conj]) ?_
    refine run_ff (by simpa using h0) ?_
    refine goT hB [] 400 rfl (by first | exact conj_nil | simp [conj]) ?_
    refine run_retC hpin () trivial [0, 1, 2, 3] rfl rfl (by first | exact conj_nil | simp [conj]) rfl ?_
    simp [conj, less_rfl, ren_rG, renR_rG]
end Sx
