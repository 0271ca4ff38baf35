/- JudgeFinals: its walk. Conditions: as each theorem says. -/
import Derived.Test.YtdjckiilfplnfaaJyc
import Derived.Test.YtdjckiilfplnfaaJyd
set_option linter.unusedSimpArgs false
set_option linter.unusedVariables false
namespace Sx
open Go Go.Proofs
set_option maxRecDepth 100000
set_option pp.deepTerms true
set_option pp.maxSteps 10000000
/-- What the law takes. -/
structure ARG (K : Kn) (H : Hi) (vo vc : Value) (V : Nat → Value) : Prop extends HOK0 K H vo vc V where
  vf : ∀ i, i < H.m → ∀ k, k < (H.op i).n → Fits .i64 ((H.op i).v k)
  bf : ∀ i, i < H.m → Fits .i64 (H.op i).b
theorem Small.ok {H : Hi} (s : Small H) {K : Kn} {vo vc : Value} {V : Nat → Value} (h : HOK0 K H vo vc V) : HOK K H vo vc V := h.ok s.m s.nc s.n
end Sx
