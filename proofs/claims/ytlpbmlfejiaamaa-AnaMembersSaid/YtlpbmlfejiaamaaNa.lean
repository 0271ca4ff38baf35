/- Package ana: what its functions do. Conditions: as each theorem says. -/
import Derived.Test.YtlpbmlfejiaamaaProg
import Derived.KernelRfl
import Derived.Test.YtlpbmlfejiaamaaEngX5
set_option linter.unusedSimpArgs false
set_option linter.unusedVariables false
namespace Sx
open Go Go.Proofs
set_option maxRecDepth 100000
theorem named : Named Try.prog := by
  have h : Try.prog.funcs.toList.all (fun fn => !(fn.name == "runtime.NumGoroutine")) = true := by kernel_rfl
  intro f fn hf
  have hm : fn ∈ Try.prog.funcs.toList := Array.mem_toList_iff.2 (Array.mem_of_getElem? hf)
  have := List.all_eq_true.1 h fn hm
  simpa using this
theorem mixed : Try.prog.follows .mixedOrders = true := by kernel_rfl
theorem Fits_i64 (x : Int) : Fits .i64 x ↔ -9223372036854775808 ≤ x ∧ x ≤ 9223372036854775807 := by
  simp [Fits, IntKind.min, IntKind.max, IntKind.signed, IntKind.bits]
abbrev i64 (a : Int) : SV := .int .i64 a
/-- The functions with a contract. -/
abbrev cf : List Nat := [75, 86, 83]
def modeU (s : SumL) : Mode := { st := true, unr := true, inl := fun f => !hasN f cf, sum := sumOf s, keep := fun _ => none }
theorem goU {B : Base} (hB : B.ok) {ro : Hp} {f : FuncId} {R : Ending → World → Prop} {s : SumL} (hs : SumOk Try.prog (sumOf s)) {cs0 cs : List Prop} {c c0 c' : Cfg} (h0 : stepD Try.prog (modeU s) ro c = some (cs0, c0)) (h : execG Try.prog (modeU s) ro 400 cs0 c0 = (cs, c')) (hc : conj cs)
    (hr : Run Try.prog ro B f R c') : Run Try.prog ro B f R c := run_go mixed named hB hs 400 h0 h hc hr
/-- Every test is decided. -/
theorem goX {B : Base} (hB : B.ok) {ro : Hp} {f : FuncId} {R : Ending → World → Prop} (m : Nat) {cs : List Prop} {c c' : Cfg} (h : execX Try.prog (modeU []) ro m [] c = (cs, c')) (hc : conj cs)
    (hr : Run Try.prog ro B f R c') : Run Try.prog ro B f R c := run_goX mixed named hB (sumOk_nil _) m h hc hr
def modeK : Mode := { st := true, unr := false, inl := fun f => !hasN f cf, sum := sumOf [], keep := fun _ => none }
theorem goK {B : Base} (hB : B.ok) {ro : Hp} {f : FuncId} {R : Ending → World → Prop} {cs0 cs : List Prop} {c c0 c' : Cfg} (h0 : stepD Try.prog modeK ro c = some (cs0, c0)) (h : execG Try.prog modeK ro 400 cs0 c0 = (cs, c')) (hc : conj cs)
    (hr : Run Try.prog ro B f R c') : Run Try.prog ro B f R c := run_go mixed named hB (sumOk_nil _) 400 h0 h hc hr
theorem fin {f : FuncId} {w : World} {n : Nat} {sl : Slots} {td : List SI} {hp : Hp} {nx : Nat} {cs : List Prop} {v r : SV} (hv : resV Try.prog f sl hp [] = some (cs, v)) (hc : conj cs) (hcl : v.closed = true) (e : v = r) :
    Run Try.prog [] (Base.all w) f (Gives w r) ⟨⟨fid f, n, sl, .code .ret :: td⟩, [], hp, nx⟩ := run_ret hv hc (fun _ _ _ hs hu => gives_of hs hu hcl e)
theorem isBo4 : IsBo Try.prog 4 := by show Try.prog.underlying 4 = some .bool; kernel_rfl
theorem isPt23 : IsPt Try.prog 23 := ⟨64, by kernel_rfl⟩
theorem isIf20 : IsIf Try.prog 20 := ⟨#[], by kernel_rfl⟩
theorem rowEqK76 : RowEqK Try.prog 76 [true, true, false, false] := by
  have hf : Try.prog.fieldsOf 76 = match Try.prog.underlying 76 with | some (.struct fs) => fs | _ => #[] := rfl
  have h : Try.prog.underlying 76 = some (.struct (Try.prog.fieldsOf 76)) := by
    rw [hf, Try.underlying76]
  refine ⟨h, by kernel_rfl, by kernel_rfl, by kernel_rfl, fun i f hi => ?_⟩
  rw [hf, Try.underlying76] at hi
  match i, hi with
  | 0, hi => injection hi with hi; subst hi; exact ⟨by decide, rfl, fun _ => ⟨_, Try.underlying5⟩, fun h => by simp at h⟩
  | 1, hi => injection hi with hi; subst hi; exact ⟨by decide, rfl, fun _ => ⟨_, Try.underlying5⟩, fun h => by simp at h⟩
  | 2, hi => injection hi with hi; subst hi; exact ⟨by decide, rfl, fun h => by simp at h, fun _ => Try.underlying4⟩
  | 3, hi => injection hi with hi; subst hi; exact ⟨by decide, rfl, fun h => by simp at h, fun _ => Try.underlying4⟩
  | i + 4, hi => cases hi
end Sx
