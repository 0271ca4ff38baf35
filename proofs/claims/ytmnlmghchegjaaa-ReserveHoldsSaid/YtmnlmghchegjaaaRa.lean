/- Package reserve: what its functions do. Conditions: as each theorem says. -/
import Derived.Test.YtmnlmghchegjaaaProg
import Derived.KernelRfl
import Derived.Test.YtmnlmghchegjaaaEngX5
import Derived.Test.YtmnlmghchegjaaaEngX4
set_option linter.unusedSimpArgs false
set_option linter.unusedVariables false
namespace Sx
open Go Go.Proofs
set_option maxRecDepth 100000
theorem named : Named Try.prog := by
  have h : Try.prog.funcs.toList.all (fun fn => !(fn.name == "runtime.NumGoroutine")) = true := by kernel_rfl
  intro f fn hf
  have hm : fn ∈ Try.prog.funcs.toList := Array.mem_toList_iff.2 (Array.mem_of_getElem? hf)
  have := List.all_eq_true.1 h fn hm
  simpa using this
theorem mixed : Try.prog.follows .mixedOrders = true := by kernel_rfl
theorem Fits_i64 (x : Int) : Fits .i64 x ↔ -9223372036854775808 ≤ x ∧ x ≤ 9223372036854775807 := by
  simp [Fits, IntKind.min, IntKind.max, IntKind.signed, IntKind.bits]
abbrev i64 (a : Int) : SV := .int .i64 a
abbrev u64 (a : Int) : SV := .int .u64 a
/-- The functions with a contract. -/
abbrev cf : List Nat := [37, 38, 81, 87, 85]
def modeU (s : SumL) : Mode := { st := true, unr := true, inl := fun f => !hasN f cf, sum := sumOf s, keep := fun _ => none }
theorem goU {B : Base} (hB : B.ok) {ro : Hp} {f : FuncId} {R : Ending → World → Prop} {s : SumL} (hs : SumOk Try.prog (sumOf s)) {cs0 cs : List Prop} {c c0 c' : Cfg} (h0 : stepD Try.prog (modeU s) ro c = some (cs0, c0)) (h : execG Try.prog (modeU s) ro 400 cs0 c0 = (cs, c')) (hc : conj cs)
    (hr : Run Try.prog ro B f R c') : Run Try.prog ro B f R c := run_go mixed named hB hs 400 h0 h hc hr
/-- Every test is decided. -/
theorem goX {B : Base} (hB : B.ok) {ro : Hp} {f : FuncId} {R : Ending → World → Prop} (m : Nat) {cs : List Prop} {c c' : Cfg} (h : execX Try.prog (modeU []) ro m [] c = (cs, c')) (hc : conj cs)
    (hr : Run Try.prog ro B f R c') : Run Try.prog ro B f R c := run_goX mixed named hB (sumOk_nil _) m h hc hr
theorem goW {B : Base} (hB : B.ok) {ro : Hp} {f : FuncId} {R : Ending → World → Prop} (S : List (Nat × Nat)) (m : Nat) {cs : List Prop} {c c' : Cfg} (h : execY Try.prog (modeU []) ro S m [] c = (cs, c')) (hc : conj cs)
    (hr : Run Try.prog ro B f R c') : Run Try.prog ro B f R c := run_goY mixed named hB (sumOk_nil _) S m h hc hr
theorem pin0 (w : World) : PinTo (Base.all w) 0 := ⟨fun _ _ => rfl, rfl⟩
theorem run_toK {B : Base} {ro : Hp} {f : FuncId} {R : Ending → World → Prop} {np : Nat} (hpin : PinTo B np) (sl' : Slots) (rs : List Slots) (hp' : Hp) (sg : List Nat) {fn : FId} {n : Nat} {sl : Slots} {td : List SI} {rest : List SFr} {hp : Hp} {nx nx' : Nat} {cs : List Prop} (hl : sg.length = nx')
    (h : weakC nx sg np ro sl sl' rest (reSl rest rs) hp hp' = some cs) (hc : conj cs) (hr : Run Try.prog ro B f R ⟨⟨fn, n, sl', td⟩, reSl rest rs, hp', nx'⟩) (hdf : dfKeep nx sg fn.dfs := by first | trivial | exact ⟨rfl, rfl, trivial⟩) : Run Try.prog ro B f R ⟨⟨fn, n, sl, td⟩, rest, hp, nx⟩ :=
  run_to hpin sg hl h hc hr hdf
def modeK : Mode := { st := true, unr := false, inl := fun f => !hasN f cf, sum := sumOf [], keep := fun _ => none }
theorem goK {B : Base} (hB : B.ok) {ro : Hp} {f : FuncId} {R : Ending → World → Prop} {cs0 cs : List Prop} {c c0 c' : Cfg} (h0 : stepD Try.prog modeK ro c = some (cs0, c0)) (h : execG Try.prog modeK ro 400 cs0 c0 = (cs, c')) (hc : conj cs)
    (hr : Run Try.prog ro B f R c') : Run Try.prog ro B f R c := run_go mixed named hB (sumOk_nil _) 400 h0 h hc hr
theorem fin {f : FuncId} {w : World} {n : Nat} {sl : Slots} {td : List SI} {hp : Hp} {nx : Nat} {cs : List Prop} {v r : SV} (hv : resV Try.prog f sl hp [] = some (cs, v)) (hc : conj cs) (hcl : v.closed = true) (e : v = r) :
    Run Try.prog [] (Base.all w) f (Gives w r) ⟨⟨fid f, n, sl, .code .ret :: td⟩, [], hp, nx⟩ := run_ret hv hc (fun _ _ _ hs hu => gives_of hs hu hcl e)
theorem isBo4 : IsBo Try.prog 4 := by show Try.prog.underlying 4 = some .bool; kernel_rfl
theorem isPt25 : IsPt Try.prog 25 := ⟨46, by kernel_rfl⟩
theorem isIf20 : IsIf Try.prog 20 := ⟨#[], by kernel_rfl⟩
theorem isMp43 : IsMp Try.prog 43 := ⟨_, _, Try.underlying43⟩
theorem isMp44 : IsMp Try.prog 44 := ⟨_, _, Try.underlying44⟩
theorem isSl92 : IsSl Try.prog 92 := ⟨38, by kernel_rfl⟩
theorem isSl47 : IsSl Try.prog 47 := ⟨23, by kernel_rfl⟩
theorem isFn54 : IsFn Try.prog 54 := ⟨_, _, _, Try.underlying54⟩
theorem rowEqK49 : RowEqK Try.prog 49 [true, true, false, false] := by
  have hf : Try.prog.fieldsOf 49 = match Try.prog.underlying 49 with | some (.struct fs) => fs | _ => #[] := rfl
  have h : Try.prog.underlying 49 = some (.struct (Try.prog.fieldsOf 49)) := by
    rw [hf, Try.underlying49]
  refine ⟨h, by kernel_rfl, by kernel_rfl, by kernel_rfl, fun i f hi => ?_⟩
  rw [hf, Try.underlying49] at hi
  match i, hi with
  | 0, hi => injection hi with hi; subst hi; exact ⟨by decide, rfl, fun _ => ⟨_, Try.underlying5⟩, fun h => by simp at h⟩
  | 1, hi => injection hi with hi; subst hi; exact ⟨by decide, rfl, fun _ => ⟨_, Try.underlying5⟩, fun h => by simp at h⟩
  | 2, hi => injection hi with hi; subst hi; exact ⟨by decide, rfl, fun h => by simp at h, fun _ => Try.underlying4⟩
  | 3, hi => injection hi with hi; subst hi; exact ⟨by decide, rfl, fun h => by simp at h, fun _ => Try.underlying4⟩
  | i + 4, hi => cases hi
theorem rowEqK82 : RowEqK Try.prog 82 [true, true, false] := by
  have hf : Try.prog.fieldsOf 82 = match Try.prog.underlying 82 with | some (.struct fs) => fs | _ => #[] := rfl
  have h : Try.prog.underlying 82 = some (.struct (Try.prog.fieldsOf 82)) := by
    rw [hf, Try.underlying82]
  refine ⟨h, by kernel_rfl, by kernel_rfl, by kernel_rfl, fun i f hi => ?_⟩
  rw [hf, Try.underlying82] at hi
  match i, hi with
  | 0, hi => injection hi with hi; subst hi; exact ⟨by decide, rfl, fun _ => ⟨_, Try.underlying23⟩, fun h => by simp at h⟩
  | 1, hi => injection hi with hi; subst hi; exact ⟨by decide, rfl, fun _ => ⟨_, Try.underlying23⟩, fun h => by simp at h⟩
  | 2, hi => injection hi with hi; subst hi; exact ⟨by decide, rfl, fun h => by simp at h, fun _ => Try.underlying4⟩
  | i + 3, hi => cases hi
theorem isClone : IsClone Try.prog 70 Try.f70 := ⟨Try.func70, rfl, rfl, by kernel_rfl, by kernel_rfl⟩
theorem cloneK_hc (h : Int → Bool) (v : Int → Int) : HC Try.prog 38 [.mp 0] [(0, .map .u64 h (.ints .u64 v))] [] 1 (fun _ : Unit => True) (fun _ => ⟨.mp 1, [(0, .map .u64 h (.ints .u64 v)), (1, .map .u64 h (.ints .u64 v))], 2⟩) := by
  refine hc_of_run Try.func38 rfl (fun B hB hpin => ?_)
  refine goK hB rfl rfl (by simp [conj, isMp44]) ?_
  refine run_condF rfl rfl ?_
  refine goK hB rfl rfl (by simp [conj, isMp44]) ?_
  refine run_mclone hB isClone rfl rfl (by simp [conj]) rfl rfl ?_
  refine goK hB rfl rfl (by simp [conj]) ?_
  exact run_retC hpin () trivial [0, 1] rfl rfl (by simp [conj]) rfl (by simp [conj, less_rfl])
/-- The notices: all queues empty. -/
abbrev nE : Int → SV := fun _ => .sq 0 0 0 1 0 .no
abbrev ntc (h : Int → Bool) : SO := .map .u64 h (.any nE)
theorem cloneN_hc (h : Int → Bool) : HC Try.prog 37 [.mp 0] [(0, ntc h)] [] 1 (fun _ : Unit => True) (fun _ => ⟨.mp 1, [(0, ntc h), (1, ntc h)], 2⟩) := by
  refine hc_of_run Try.func37 rfl (fun B hB hpin => ?_)
  refine goK hB rfl rfl (by simp [conj, isMp43]) ?_
  refine run_condF rfl rfl ?_
  refine goK hB rfl rfl (by simp [conj, isMp43]) ?_
  refine run_mclone hB isClone rfl rfl (by simp [conj]) rfl rfl ?_
  refine goK hB rfl rfl (by simp [conj]) ?_
  refine run_retC hpin () trivial [0, 1] rfl rfl (by simp [conj]) rfl ?_
  simp [conj, less_rfl]
  exact fun a _ => (Less.rfl : Less (nE a) (nE a))
def rcN (h : Int → Bool) (a : Nat) : RC := ⟨37, [.mp 0], [(0, ntc h)], [], 1, .mp 1, [(0, ntc h), (1, ntc h)], 2, [a]⟩
def rcK (h : Int → Bool) (v : Int → Int) (a : Nat) : RC := ⟨38, [.mp 0], [(0, .map .u64 h (.ints .u64 v))], [], 1, .mp 1, [(0, .map .u64 h (.ints .u64 v)), (1, .map .u64 h (.ints .u64 v))], 2, [a]⟩
theorem rcN_ok (h : Int → Bool) (a : Nat) : RcOk Try.prog (rcN h a) := ⟨cloneN_hc h, rfl, by show 1 ≤ 2; omega⟩
theorem rcK_ok (h : Int → Bool) (v : Int → Int) (a : Nat) : RcOk Try.prog (rcK h v a) := ⟨cloneK_hc h v, rfl, by show 1 ≤ 2; omega⟩
end Sx
