/- Package mapping: what its functions do. Conditions: as each theorem says. -/
import Derived.Test.YtdphonnleoklgaaProg
import Derived.KernelRfl
import Derived.Test.YtdphonnleoklgaaEngX5
set_option linter.unusedSimpArgs false
set_option linter.unusedVariables false
namespace Sx
open Go Go.Proofs
set_option maxRecDepth 100000
theorem named : Named Try.prog := by
  have h : Try.prog.funcs.toList.all (fun fn => !(fn.name == "runtime.NumGoroutine")) = true := by kernel_rfl
  intro f fn hf
  have hm : fn ∈ Try.prog.funcs.toList := Array.mem_toList_iff.2 (Array.mem_of_getElem? hf)
  have := List.all_eq_true.1 h fn hm
  simpa using this
theorem mixed : Try.prog.follows .mixedOrders = true := by kernel_rfl
theorem Fits_i64 (x : Int) : Fits .i64 x ↔ -9223372036854775808 ≤ x ∧ x ≤ 9223372036854775807 := by
  simp [Fits, IntKind.min, IntKind.max, IntKind.signed, IntKind.bits]
abbrev i64 (a : Int) : SV := .int .i64 a
/-- The functions with a contract. -/
abbrev cf : List Nat := [6, 8, 10, 15, 16, 17, 18, 19, 20, 21, 22, 23, 24, 27, 28, 29, 31, 33, 34, 35, 39, 44, 46]
def modeU (s : SumL) : Mode := { st := true, unr := true, inl := fun f => !hasN f cf, sum := sumOf s, keep := fun _ => none }
theorem goU {B : Base} (hB : B.ok) {ro : Hp} {f : FuncId} {R : Ending → World → Prop} {s : SumL} (hs : SumOk Try.prog (sumOf s)) {cs0 cs : List Prop} {c c0 c' : Cfg} (h0 : stepD Try.prog (modeU s) ro c = some (cs0, c0)) (h : execG Try.prog (modeU s) ro 400 cs0 c0 = (cs, c')) (hc : conj cs)
    (hr : Run Try.prog ro B f R c') : Run Try.prog ro B f R c := run_go mixed named hB hs 400 h0 h hc hr
/-- Every test is decided. -/
theorem goX {B : Base} (hB : B.ok) {ro : Hp} {f : FuncId} {R : Ending → World → Prop} (m : Nat) {cs : List Prop} {c c' : Cfg} (h : execX Try.prog (modeU []) ro m [] c = (cs, c')) (hc : conj cs)
    (hr : Run Try.prog ro B f R c') : Run Try.prog ro B f R c := run_goX mixed named hB (sumOk_nil _) m h hc hr
/-- Every test but those in the slots S. -/
theorem goS {B : Base} (hB : B.ok) {ro : Hp} {f : FuncId} {R : Ending → World → Prop} (S : List (Nat × Nat)) (m : Nat) {cs : List Prop} {c c' : Cfg} (h : execY Try.prog (modeU []) ro S m [] c = (cs, c')) (hc : conj cs)
    (hr : Run Try.prog ro B f R c') : Run Try.prog ro B f R c := run_goY mixed named hB (sumOk_nil _) S m h hc hr
def modeK : Mode := { st := true, unr := false, inl := fun f => !hasN f cf, sum := sumOf [], keep := fun _ => none }
theorem goK {B : Base} (hB : B.ok) {ro : Hp} {f : FuncId} {R : Ending → World → Prop} {cs0 cs : List Prop} {c c0 c' : Cfg} (h0 : stepD Try.prog modeK ro c = some (cs0, c0)) (h : execG Try.prog modeK ro 400 cs0 c0 = (cs, c')) (hc : conj cs)
    (hr : Run Try.prog ro B f R c') : Run Try.prog ro B f R c := run_go mixed named hB (sumOk_nil _) 400 h0 h hc hr
theorem fin {f : FuncId} {w : World} {n : Nat} {sl : Slots} {td : List SI} {hp : Hp} {nx : Nat} {cs : List Prop} {v r : SV} (hv : resV Try.prog f sl hp [] = some (cs, v)) (hc : conj cs) (hcl : v.closed = true) (e : v = r) :
    Run Try.prog [] (Base.all w) f (Gives w r) ⟨⟨fid f, n, sl, .code .ret :: td⟩, [], hp, nx⟩ := run_ret hv hc (fun _ _ _ hs hu => gives_of hs hu hcl e)
theorem isBo4 : IsBo Try.prog 4 := by show Try.prog.underlying 4 = some .bool; kernel_rfl
theorem isPt25 : IsPt Try.prog 25 := ⟨_, Try.underlying25⟩
theorem isIf20 : IsIf Try.prog 20 := ⟨#[], by kernel_rfl⟩
theorem total_pure (s b p : Int) (h : Fits .i64 (b * p)) : Pure Try.prog 42 [.agg [i64 s, i64 b, i64 p]] (i64 (b * p)) := by
  refine pure_of_run Try.func42 rfl (fun w' => ?_)
  refine goX (Base.all_ok _) 100 rfl (by simpa [conj] using h) ?_
  exact fin rfl (by simp [conj]) rfl rfl
def FTotal : List SV → Option (List Prop × SV)
  | [.agg [.int .i64 _, .int .i64 b, .int .i64 p]] => some ([Fits .i64 (b * p)], .int .i64 (b * p))
  | _ => none
theorem FTotal_ok : PureOk Try.prog 42 FTotal := by
  intro xs cs r h hc
  unfold FTotal at h
  split at h <;> first | exact (none_ne h).elim | skip
  simp only [Option.some.injEq, Prod.mk.injEq] at h; obtain ⟨rfl, rfl⟩ := h
  exact ⟨rfl, total_pure _ _ _ hc.head⟩
def s1 : SumL := [(42, FTotal)]
theorem s1_ok : SumOk Try.prog (sumOf s1) := sumOk_cons FTotal_ok (sumOk_nil _)
def fitsB (s b p x y : Int) : Bool := decide (0 ≤ x) && decide (x < s) && decide (-1 ≤ y) && decide (y < b * p)
theorem fits_pure (s b p x y : Int) (h : Fits .i64 (b * p)) : Pure Try.prog 37 [.agg [i64 s, i64 b, i64 p], .agg [i64 x, i64 y]] (.sb (fitsB s b p x y)) := by
  refine pure_of_run Try.func37 rfl (fun w' => ?_)
  refine goU (Base.all_ok _) s1_ok rfl rfl (by simp [conj, h]) ?_
  exact fin rfl (by simp [conj]) rfl (by simp [fitsB])
def FFits : List SV → Option (List Prop × SV)
  | [.agg [.int .i64 s, .int .i64 b, .int .i64 p], .agg [.int .i64 x, .int .i64 y]] => some ([Fits .i64 (b * p)], .sb (fitsB s b p x y))
  | _ => none
theorem FFits_ok : PureOk Try.prog 37 FFits := by
  intro xs cs r h hc
  unfold FFits at h
  split at h <;> first | exact (none_ne h).elim | skip
  simp only [Option.some.injEq, Prod.mk.injEq] at h; obtain ⟨rfl, rfl⟩ := h
  exact ⟨rfl, fits_pure _ _ _ _ _ hc.head⟩
def s2 : SumL := [(37, FFits), (42, FTotal)]
theorem s2_ok : SumOk Try.prog (sumOf s2) := sumOk_cons FFits_ok s1_ok
/-- Everything is entered. -/
def modeA : Mode := { st := true, unr := true, inl := fun _ => true, sum := sumOf s2, keep := fun _ => none }
theorem goA {B : Base} (hB : B.ok) {ro : Hp} {f : FuncId} {R : Ending → World → Prop} (S : List (Nat × Nat)) (m : Nat) {cs : List Prop} {c c' : Cfg} (h : execY Try.prog modeA ro S m [] c = (cs, c')) (hc : conj cs)
    (hr : Run Try.prog ro B f R c') : Run Try.prog ro B f R c := run_goY mixed named hB s2_ok S m h hc hr
theorem isMp58 : IsMp Try.prog 58 := ⟨_, _, Try.underlying58⟩
end Sx
