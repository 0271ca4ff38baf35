/- Chapter 47's reference: search. Conditions: as each theorem says. -/
import Derived.Test.YtdjckiilfplnfaaJxc
import Derived.Test.YtdjckiilfplnfaaJxb
set_option linter.unusedSimpArgs false
set_option linter.unusedVariables false
namespace Sx
open Go Go.Proofs
set_option maxRecDepth 100000
set_option pp.deepTerms true
set_option pp.maxSteps 10000000
structure RP (K : Kn) (H : Hi) (L : List Nat) (P : Nat → PT) (V C U : Nat → Value) (N : Nat) : Prop where
  n : L.length ≤ 12
  w : ∀ q, q < L.length → (P q).w = decide ((H.op (L.getD q 0)).k = 1)
  k01 : ∀ q, q < L.length → (H.op (L.getD q 0)).k = 0 ∨ (H.op (L.getD q 0)).k = 1
  d : ∀ q, q < L.length → (P q).d = decide (0 ≤ (H.op (L.getD q 0)).e)
  b : ∀ q, q < L.length → (P q).b = (H.op (L.getD q 0)).b
  e : ∀ q, q < L.length → (P q).e = (H.op (L.getD q 0)).e
  f : ∀ q, q < L.length → (P q).f.toNat + (P q).n ≤ N
  C : ∀ q, q < L.length → Froz K (C q) N 1 (crow (P q))
  U : ∀ q, q < L.length → Froz K (U q) N 1 (urow (wrow (P q)))
theorem RP.mono {K K' : Kn} {H : Hi} {L : List Nat} {P : Nat → PT} {V C U : Nat → Value} {N : Nat} (h : RP K H L P V C U N) (g : ∀ b o, K b = some o → K' b = some o) : RP K' H L P V C U N :=
  ⟨h.n, h.w, h.k01, h.d, h.b, h.e, h.f, fun q hq => (h.C q hq).mono g, fun q hq => (h.U q hq).mono g⟩
def tbrow (A : Nat) : Nat → Nat → SV := fun k _ => .sb (A.testBit k)
def LIM : Nat := 5864062014805
end Sx
