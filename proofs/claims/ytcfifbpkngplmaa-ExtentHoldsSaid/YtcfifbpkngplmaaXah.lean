/- The law's act: where nothing is placed, dropped or deleted. Conditions: as each theorem says. -/
import Derived.Test.YtcfifbpkngplmaaXag
set_option linter.unusedSimpArgs false
set_option linter.unusedVariables false
namespace Sx
open Go Go.Proofs
set_option maxRecDepth 100000
set_option pp.deepTerms true
set_option pp.maxSteps 10000000
def rcNum (c : Int) : RC := ⟨10, [i64 c], [], [], 0, i64 c, [], 0, []⟩
structure St where
  s : XSt
  z : XZ
  l : List Int
  v : Value
  W : Nat → Value
def ActA (J K : Kn) (s : XSt) (l : List Int) (y : St) (K' : Kn) : Prop := ∃ J', Ev J K J' K' ∧ AInv J' K' y.s y.z y.l y.v y.W ∧ y.s.un = s.un ∧ y.s.tot = s.tot ∧ y.l.length ≤ l.length + 1
abbrev actOut (y : St) : Out := ⟨.tup [.ptr 2 0, rG y.s.un y.s.tot y.v, .tt], [(2, xC y.z.vF y.s.nx y.s.tot y.s.un 3), (3, amap y.s.h y.s.sz y.z.V)], 4⟩
abbrev acts (w id q c : Int) : SV := .agg [i64 w, i64 id, i64 q, i64 c]
theorem AInv.froz {J K : Kn} {s : XSt} {z : XZ} {l : List Int} {v : Value} {W : Nat → Value} (h : AInv J K s z l v W) (a : Int) (ha : s.h a = true) : Froz K (z.V a) (s.n a) 1 (urow (s.u a)) := (h.x.rows a ha (fun q => q)).froz
end Sx
