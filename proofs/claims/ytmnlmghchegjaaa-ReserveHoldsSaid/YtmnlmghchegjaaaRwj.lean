/- Package reserve: Allowed; what ReserveHolds computes: true. Conditions: as each theorem says. -/
import Derived.Test.YtmnlmghchegjaaaRwi
import Derived.Test.YtmnlmghchegjaaaRtg
import Derived.Test.YtmnlmghchegjaaaRe
set_option linter.unusedSimpArgs false
set_option linter.unusedVariables false
namespace Sx
open Go Go.Proofs
set_option maxRecDepth 100000
set_option pp.deepTerms true
set_option pp.maxSteps 10000000
theorem run_shareX {P : Program} {ro : Hp} {f : FuncId} {R : Ending → World → Prop} {Z : Type} {N : Nat} {TD : List SI} (Bz : Z → Base) (G : Z → Prop) (c1 : Z → Nat → List SI → Cfg) {Q : Prop} (main : (∀ z, G z → Run P ro (Bz z) f R (c1 z N TD)) → Q) (proof : ∀ z, G z → Run P ro (Bz z) f R (c1 z N TD)) : Q := main proof
theorem allowed_hc (h : Int → Bool) (v : Int → Int) (T H x : Int) (w : Bool) (hT : 0 ≤ T) : HC Try.prog 19 [.ptr 0 0, u64 x, .sb w] [] [(0, .cells [.und, .mp 1, i64 T, u64 H, .und, .und] 46), (1, kmap h v)] 2 (fun _ : Unit => True) (fun _ => ⟨.sb (allO h T H x w), [], 2⟩) := by
  refine hc_of_run Try.func19 rfl (fun B hB hpin => ?_)
  refine goN hB rfl rfl (by simp [conj, isPt25, isMp44, isBo4]) ?_
  refine run_condF rfl (by simp) ?_
  refine goN hB rfl rfl (by simp [conj, isPt25, isMp44, isBo4]) ?_
  refine run_cond rfl (fun h0 => ?_) (fun h0 => ?_)
  · have h0 : T = 0 := by simpa using h0
    refine goN hB rfl rfl (by simp [conj, isPt25, isMp44, isBo4]) ?_
    refine run_retC hpin () trivial [0, 1] rfl rfl (by simp [conj]) rfl ?_
    simp [conj, less_rfl, allO, h0]
  have h0 : T ≠ 0 := by simpa using h0
  refine goN hB rfl rfl (by simp [conj, isPt25, isMp44, isBo4]) ?_
  refine run_cond rfl (fun h1 => ?_) (fun h1 => ?_)
  · have h1 : T = 1 := by simpa using h1
    refine goN hB rfl rfl conj_nil ?_
    refine run_condT rfl (by simp [h1]) ?_
    refine goN hB rfl rfl (by simp [conj, isPt25, isMp44, isBo4, h1]) ?_
    refine run_retC hpin () trivial [0, 1] rfl rfl (by simp [conj]) rfl ?_
    simp [conj, less_rfl, allO, h1]
  have h1 : T ≠ 1 := by simpa using h1
  refine goN hB rfl rfl (by simp [conj, isPt25, isMp44, isBo4]) ?_
  refine run_cond rfl (fun h2 => ?_) (fun h2 => ?_)
  · have h2 : T = 2 := by simpa using h2
    refine goN hB rfl rfl (by simp [conj, isPt25, isMp44, isBo4, h2]) ?_
    refine run_retC hpin () trivial [0, 1] rfl rfl (by simp [conj]) rfl ?_
    simp [conj, less_rfl, allO, h2]
  have h2 : T ≠ 2 := by simpa using h2
  refine goN hB rfl rfl (by simp [conj, isPt25, isMp44, isBo4]; exact ⟨fun a b => ⟨a, b⟩, fun _ => hT⟩) ?_
  refine run_retC hpin () trivial [0, 1] rfl rfl (by simp [conj]) rfl ?_
  simp [conj, less_rfl, allO, h0, h1, h2]
end Sx
