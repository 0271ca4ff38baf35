/- The reference of chapter 27: its readers. Conditions: as each theorem says. -/
import Derived.Test.YtcfifbpkngplmaaXt
set_option linter.unusedSimpArgs false
set_option linter.unusedVariables false
namespace Sx
open Go Go.Proofs
set_option maxRecDepth 100000
set_option pp.deepTerms true
set_option pp.maxSteps 10000000
/-- The reference's namespaces: how many, their identifiers, sizes, numbers of parts and units. -/
structure RS where
  m : Nat
  I : Nat → Int
  Z : Nat → Int
  N : Nat → Nat
  U : Nat → Nat → Int
def rrow (r : RS) (W : Nat → Value) : Nat → Nat → SV := fun i k => match k with
  | 0 => i64 (r.I i)
  | 1 => i64 (r.Z i)
  | _ => .val (W i)
def RUnits (K : Kn) (r : RS) (W : Nat → Value) : Prop := ∀ i, i < r.m → Froz K (W i) (r.N i) 1 (urow (r.U i))
abbrev rG (un tot : Int) (v : Value) : SV := .agg [i64 un, i64 tot, .val v]
abbrev rGo (un tot : Int) (off m : Nat) : SV := .agg [i64 un, i64 tot, .sq 0 off 0 3 m .no]
abbrev rRow (off : Nat) (r : RS) (W : Nat → Value) : SO := .row off r.m r.m 3 (rrow r W) anyTy
/-- The reference's calls stay calls. -/
abbrev cfR : List Nat := [56, 67, 68, 70, 71, 72, 73, 80]
def modeR : Mode := { st := true, unr := false, inl := fun f => !hasN f cfR, sum := sumOf [], keep := fun _ => none }
/-- Where an identifier is first. -/
def FindS (r : RS) (id x : Int) : Prop := (x = -1 ∧ ∀ j, j < r.m → r.I j ≠ id) ∨ ∃ i : Nat, x = i ∧ i < r.m ∧ r.I i = id ∧ ∀ j, j < i → r.I j ≠ id
end Sx
