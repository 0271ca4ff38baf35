/- The law's act: any call. Conditions: as each theorem says. -/
import Derived.Test.YtcfifbpkngplmaaXao
set_option linter.unusedSimpArgs false
set_option linter.unusedVariables false
namespace Sx
open Go Go.Proofs
set_option maxRecDepth 100000
set_option pp.deepTerms true
set_option pp.maxSteps 10000000
abbrev ActHA (J K : Kn) (s : XSt) (z : XZ) (l : List Int) (v : Value) (w id q c : Int) : Prop := HCX Try.prog K M0 24 [.ptr 0 0, rG s.un s.tot v, acts w id q c] (hpX s z) [] 2 (ActA J K s l) actOut
abbrev ActHB (J : Kn) (s : XSt) (z : XZ) (l : List Int) (v : Value) (w id q c : Int) (b : Nat) : Prop := HCXq Try.prog J (fun β => β 2 = some b) 24 [.ptr 0 0, rG s.un s.tot v, acts w id q c] (hpX s z ++ [(2, uRow (s.n id) (s.u id))]) [] 3 (ActB J s z l id) (actOutB id)
theorem URow.keep' {K K' : Kn} {v : Value} {b n : Nat} {f : Nat → Int} (h : URow K v b n f) (g : ∀ o, K b = Option.some o → K' b = Option.some o) : URow K' v b n f := by
  obtain ⟨room, c, h1, h2, h3, h4, h5⟩ := h
  exact ⟨room, c, h1, h2, g _ h3, h4, h5⟩
theorem offK_of {K : Kn} {b x : Nat} (h : x ≠ b) : offK K b x = K x := by unfold offK; rw [if_neg h]
theorem le_offK {J K : Kn} {b : Nat} (h : Kle J K) (hb : J b = none) : Kle J (offK K b) := fun x o e => by
  rw [offK_of (fun q => by rw [q, hb] at e; cases e)]; exact h x o e
end Sx
