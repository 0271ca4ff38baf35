/- The law's small. Conditions: as each theorem says. -/
import Derived.Test.YtdjckiilfplnfaaJxg
import Derived.Test.YtdjckiilfplnfaaJxi
set_option linter.unusedSimpArgs false
set_option linter.unusedVariables false
namespace Sx
open Go Go.Proofs
set_option maxRecDepth 100000
set_option pp.deepTerms true
set_option pp.maxSteps 10000000
/-- How a history of any length lies. -/
structure HOK0 (K : Kn) (H : Hi) (vo vc : Value) (V : Nat → Value) : Prop where
  o : Froz K vo H.m 6 (orow H V)
  c : Froz K vc H.nc 1 (urow H.c)
  v : ∀ i, i < H.m → Froz K (V i) (H.op i).n 1 (urow (H.op i).v)
  z : ∀ i, H.m ≤ i → (H.op i).n = 0
  u : Fits .i64 H.unit ∧ Fits .i64 H.blocks
  f : ∀ i, i < H.m → Fits .i64 (H.op i).f
  m : H.m ≤ 9223372036854775807
  nc : H.nc ≤ 9223372036854775807
theorem HOK0.ok {K : Kn} {H : Hi} {vo vc : Value} {V : Nat → Value} (h : HOK0 K H vo vc V) (h1 : H.m ≤ 14) (h2 : H.nc ≤ 3) (h3 : ∀ i, i < H.m → (H.op i).n ≤ 40) : HOK K H vo vc V :=
  ⟨h.o, h.c, h.v, by omega, by omega, fun i => by
    rcases Nat.lt_or_ge i H.m with q | q
    · have := h3 i q; omega
    · rw [h.z i q]; omega⟩
structure Small (H : Hi) : Prop where
  m : H.m ≤ 14
  nc : H.nc ≤ 3
  n : ∀ i, i < H.m → (H.op i).n ≤ 40
  v : VHi H → H.blocks ≤ 16 ∧ ∀ u, u < nU H → ∀ e, e ≤ H.nc → lenE H (u : Nat) e ≤ 5
end Sx
