/- Loops inside a range over a function: the frames below and the loop's own blocks stay. No condition. -/
import Derived.Test.YtpjabkjacldgcaaEngC
namespace Sx
open Go
/-- The frames with other slots. -/
def reSl : List SFr → List Slots → List SFr
  | ⟨fn, n, _, td⟩ :: r, s :: ss => ⟨fn, n, s, td⟩ :: reSl r ss
  | r, _ => r
/-- The blocks ks as they are, and acc. -/
def pickH (hp : Hp) (acc : Hp) : List Nat → Hp
  | [] => acc
  | k :: ks => match hget k hp with
    | some o => (k, o) :: pickH hp acc ks
    | none => pickH hp acc ks
section
variable {P : Program} {ro : Hp} {B B' : Base} {f : FuncId} {R : Ending → World → Prop}
theorem run_invK {ι : Type} {np : Nat} (hpin : PinTo B np) (I : ι → Prop) (μ : ι → Nat) (slI : ι → Slots) (rsI : ι → List Slots) (ks : List Nat) (hpI : ι → Hp) (nxI : Nat) (x0 : ι) (h0 : I x0) (sg : List Nat)
    {fn : FId} {n : Nat} {sl : Slots} {td : List SI} {rest : List SFr} {hp : Hp} {nx : Nat} {cs : List Prop} (hl : sg.length = nxI) (h : weakC nx sg np ro sl (slI x0) rest (reSl rest (rsI x0)) hp (pickH hp (hpI x0) ks) = some cs) (hc : conj cs)
    (step : ∀ x, I x → (∀ y, I y → μ y < μ x → Run P ro B f R ⟨⟨fn, n, slI y, td⟩, reSl rest (rsI y), pickH hp (hpI y) ks, nxI⟩) → Run P ro B f R ⟨⟨fn, n, slI x, td⟩, reSl rest (rsI x), pickH hp (hpI x) ks, nxI⟩) :
    Run P ro B f R ⟨⟨fn, n, sl, td⟩, rest, hp, nx⟩ :=
  run_inv hpin I μ slI (fun x => reSl rest (rsI x)) (fun x => pickH hp (hpI x) ks) nxI x0 h0 sg hl h hc step
/-- Pins are given up. -/
theorem run_unpin (hM : More B B') {c : Cfg} (h : Run P ro B f R c) : Run P ro B' f R c := by
  intro β w fr frs cs hf hfs hs
  exact h β w fr frs cs hf hfs (hs.less hM)
/-- A run that two branches come to: its continuation is found where it is first used. -/
theorem run_share {N : Nat} {TD : List SI} (c1 : Nat → List SI → Cfg) {Q : Prop} (main : Run P ro B f R (c1 N TD) → Q) (proof : Run P ro B f R (c1 N TD)) : Q := main proof
end
end Sx
