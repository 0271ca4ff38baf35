/- Package ana: more of what its texts share. Conditions: as each theorem says. -/
import Derived.Test.YtlpbmlfejiaamaaNb
import Derived.Test.YtlpbmlfejiaamaaEngX5
set_option linter.unusedSimpArgs false
set_option linter.unusedVariables false
namespace Sx
open Go Go.Proofs
set_option maxRecDepth 100000
abbrev u64 (a : Int) : SV := .int .u64 a
abbrev u32 (a : Int) : SV := .int .u32 a
theorem perm_of {h : Int → Bool} {l zs : List Int} (hk : KeysOf h l) (hn : zs.Nodup) (hm : ∀ a, a ∈ zs ↔ h a = true) : zs.Perm l :=
  (List.perm_ext_iff_of_nodup hn (hk.1.imp fun {a b} h => by omega)).2 fun a => (hm a).trans (hk.2 a).symm
theorem goW0 {B : Base} (hB : B.ok) {ro : Hp} {f : FuncId} {R : Ending → World → Prop} (S : List (Nat × Nat)) (m : Nat) {cs : List Prop} {c c' : Cfg} (h : execY Try.prog (modeU []) ro S m [] c = (cs, c')) (hc : conj cs)
    (hr : Run Try.prog ro B f R c') : Run Try.prog ro B f R c := run_goY mixed named hB (sumOk_nil _) S m h hc hr
theorem run_toK {B : Base} {ro : Hp} {f : FuncId} {R : Ending → World → Prop} {np : Nat} (hpin : PinTo B np) (sl' : Slots) (rs : List Slots) (hp' : Hp) (sg : List Nat) {fn : FId} {n : Nat} {sl : Slots} {td : List SI} {rest : List SFr} {hp : Hp} {nx nx' : Nat} {cs : List Prop} (hl : sg.length = nx')
    (h : weakC nx sg np ro sl sl' rest (reSl rest rs) hp hp' = some cs) (hc : conj cs) (hr : Run Try.prog ro B f R ⟨⟨fn, n, sl', td⟩, reSl rest rs, hp', nx'⟩) (hdf : dfKeep nx sg fn.dfs := by first | trivial | exact ⟨rfl, rfl, trivial⟩) : Run Try.prog ro B f R ⟨⟨fn, n, sl, td⟩, rest, hp, nx⟩ :=
  run_to hpin sg hl h hc hr hdf
end Sx
