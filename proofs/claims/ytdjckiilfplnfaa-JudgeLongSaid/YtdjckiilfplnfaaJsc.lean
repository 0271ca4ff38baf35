/- Package judge: the two facts of the library's sort. No condition. -/
import Derived.Test.YtdjckiilfplnfaaJsl
import Derived.Test.YtdjckiilfplnfaaJsb
set_option linter.unusedSimpArgs false
set_option linter.unusedVariables false
namespace Sx
open Go Go.Proofs
theorem sortLaw : SortLaw := by
  intro enc cf blk off cap d w h1 hO hc hH hb hs
  have eg : ∀ args w, (callFunc 28 args).run Try.prog w = .ok (.enter 28 args) w := enters_of Try.func28 (by kernel_rfl) rfl
  exact Any.slices_SortFunc Try.lays27 enc h1 cf hO 28 #[] blk off cap d w eg (fun m os dk hdk x y => (hc m os dk hdk x y).mono fun _ _ ⟨he, q, hq⟩ => ⟨he, q, #[], by rw [hq, Go.Sort.grow_empty]; rfl⟩) hH hb hs
theorem sortNone : SortNone := by
  intro p cap fv w
  have L := Try.lays27
  exact AnyF.slices_SortFunc_none (P := Try.prog) (ρ := Try.lays27_ren) { L with } p cap fv w
end Sx
