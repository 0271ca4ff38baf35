/- The law's made. Conditions: as each theorem says. -/
import Derived.Test.YtcfifbpkngplmaaXan
set_option linter.unusedSimpArgs false
set_option linter.unusedVariables false
namespace Sx
open Go Go.Proofs
set_option maxRecDepth 100000
set_option pp.deepTerms true
set_option pp.maxSteps 10000000
/-- The law's calls stay calls, the makers too. -/
abbrev cfV : List Nat := 8 :: 22 :: 23 :: cfJ
def modeV : Mode := { st := true, unr := false, inl := fun f => !hasN f cfV, sum := sumOf [], keep := fun _ => none }
abbrev refZ : SV := .agg [i64 0, i64 0, .nilsl]
theorem inv0 (n u : Int) (h : ¬ bad n u) (h1 : n ≤ 400) : PInv (s0 n u) [] := by
  have h0 : 1 ≤ n ∧ n ≤ 16777216 ∧ 1 ≤ u ∧ u ≤ 4096 ∧ u ≤ n := by
    refine ⟨?_, ?_, ?_, ?_, ?_⟩ <;> (refine Int.not_lt.1 fun q => h ?_; simp [bad, q])
  obtain ⟨a0, a1, a2, a3, a4⟩ := h0
  have d0 : 0 ≤ n / u := Int.ediv_nonneg (by omega) (by omega)
  have d1 : n / u ≤ n := Int.ediv_le_self u (by omega)
  have d2 := Int.mul_ediv_self_le (x := n) (k := u) (by omega)
  have d3 := Int.mul_nonneg (show 0 ≤ u by omega) d0
  refine ⟨by show 0 < u; omega, by show u ≤ 400; omega, d0, by show n / u ≤ 400; omega, d3, by show u * (n / u) ≤ 400; omega, ⟨List.Pairwise.nil, fun a => ⟨fun q => (by cases q), fun q => (by cases q)⟩⟩, fun a q => (by cases q), fun a q => (by cases q), fun a _ q => (by cases q), fun a _ q => (by cases q), fun a _ _ _ q => (by cases q), List.Pairwise.nil, fun x q => (by cases q), Int.le_refl _, d0, fun x hx => ⟨fun ⟨a, q, e, _⟩ => (by cases e), fun ⟨e, _⟩ => by have e : x < 0 := e; omega⟩, rfl, fun _ => Nat.zero_le _⟩
end Sx
