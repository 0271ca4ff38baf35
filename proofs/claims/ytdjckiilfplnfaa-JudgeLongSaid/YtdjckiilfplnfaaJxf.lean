/- Chapter 47's reference: Finals. Conditions: as each theorem says. -/
import Derived.Test.YtdjckiilfplnfaaJxe
import Derived.Test.YtdjckiilfplnfaaJs
import Derived.Test.YtdjckiilfplnfaaEngX5
set_option linter.unusedSimpArgs false
set_option linter.unusedVariables false
namespace Sx
open Go Go.Proofs
set_option maxRecDepth 100000
set_option pp.deepTerms true
set_option pp.maxSteps 10000000
theorem hcx_xs {ι : Type} {P : Program} {K : Kn} {M : Nat → Prop} {f : FuncId} {xs xs' : List SV} {hp ro : Hp} {nx : Nat} {ψ : ι → Kn → Prop} {out : ι → Out} (h : HCX P K M f xs hp ro nx ψ out) (hx : ∀ β vs, RelL β xs' vs → RelL β xs vs) : HCX P K M f xs' hp ro nx ψ out :=
  fun B β w vs h1 h2 h3 h4 => h B β w vs h1 h2 (hx β vs h3) h4
end Sx
