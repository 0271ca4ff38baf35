/- Chapter 47's reference: unique. Conditions: as each theorem says. -/
import Derived.Test.YtdjckiilfplnfaaJxd
import Derived.Test.YtdjckiilfplnfaaJu
import Derived.Test.YtdjckiilfplnfaaJsb
set_option linter.unusedSimpArgs false
set_option linter.unusedVariables false
namespace Sx
open Go Go.Proofs
set_option maxRecDepth 100000
set_option pp.deepTerms true
set_option pp.maxSteps 10000000
theorem ltV_trans {N : Nat} {a b c : List Int} (h : ltV N a b) (g : ltV N b c) : ltV N a c := cmpR_trans _ _ _ N N h g
theorem ltV_irr {N : Nat} {a : List Int} : ¬ ltV N a a := by unfold ltV; rw [cmpR_self]; omega
theorem VL.take {K : Kn} {N : Nat} {X : List (List Int)} {W : Nat → Value} (h : VL K N X W) (k : Nat) : VL K N (X.take k) W := by
  intro i hi
  rw [List.length_take] at hi
  have e : (X.take k).getD i [] = X.getD i [] := by rw [List.getD_eq_getElem?_getD, List.getElem?_take_of_lt (by omega), ← List.getD_eq_getElem?_getD]
  rw [e]; exact h i (by omega)
theorem VL.drop {K : Kn} {N : Nat} {X : List (List Int)} {W : Nat → Value} (h : VL K N X W) (k : Nat) : VL K N (X.drop k) (fun j => W (k + j)) := by
  intro i hi
  rw [List.length_drop] at hi
  have e : (X.drop k).getD i [] = X.getD (k + i) [] := by rw [List.getD_eq_getElem?_getD, List.getElem?_drop, ← List.getD_eq_getElem?_getD]
  rw [e]; exact h _ (by omega)
end Sx
