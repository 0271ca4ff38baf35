/- Package extent: what its functions do. Conditions: as each theorem says. -/
import Derived.Test.YtcfifbpkngplmaaProg
import Derived.KernelRfl
import Derived.Test.YtcfifbpkngplmaaEngX4
set_option linter.unusedSimpArgs false
set_option linter.unusedVariables false
namespace Sx
open Go Go.Proofs
set_option maxRecDepth 100000
theorem named : Named Try.prog := by
  have h : Try.prog.funcs.toList.all (fun fn => !(fn.name == "runtime.NumGoroutine")) = true := by kernel_rfl
  intro f fn hf
  have hm : fn ∈ Try.prog.funcs.toList := Array.mem_toList_iff.2 (Array.mem_of_getElem? hf)
  have := List.all_eq_true.1 h fn hm
  simpa using this
theorem mixed : Try.prog.follows .mixedOrders = true := by kernel_rfl
theorem Fits_i64 (x : Int) : Fits .i64 x ↔ -9223372036854775808 ≤ x ∧ x ≤ 9223372036854775807 := by
  simp [Fits, IntKind.min, IntKind.max, IntKind.signed, IntKind.bits]
abbrev i64 (a : Int) : SV := .int .i64 a
abbrev cf : List Nat := [36, 29]
def modeU (s : SumL) : Mode := { st := true, unr := true, inl := fun f => !hasN f cf, sum := sumOf s, keep := fun _ => none }
theorem goU {B : Base} (hB : B.ok) {ro : Hp} {f : FuncId} {R : Ending → World → Prop} {s : SumL} (hs : SumOk Try.prog (sumOf s)) {cs0 cs : List Prop} {c c0 c' : Cfg} (h0 : stepD Try.prog (modeU s) ro c = some (cs0, c0)) (h : execG Try.prog (modeU s) ro 400 cs0 c0 = (cs, c')) (hc : conj cs)
    (hr : Run Try.prog ro B f R c') : Run Try.prog ro B f R c := run_go mixed named hB hs 400 h0 h hc hr
theorem goX {B : Base} (hB : B.ok) {ro : Hp} {f : FuncId} {R : Ending → World → Prop} (m : Nat) {cs : List Prop} {c c' : Cfg} (h : execX Try.prog (modeU []) ro m [] c = (cs, c')) (hc : conj cs)
    (hr : Run Try.prog ro B f R c') : Run Try.prog ro B f R c := run_goX mixed named hB (sumOk_nil _) m h hc hr
theorem fin {f : FuncId} {w : World} {n : Nat} {sl : Slots} {td : List SI} {hp : Hp} {nx : Nat} {cs : List Prop} {v r : SV} (hv : resV Try.prog f sl hp [] = some (cs, v)) (hc : conj cs) (hcl : v.closed = true) (e : v = r) :
    Run Try.prog [] (Base.all w) f (Gives w r) ⟨⟨fid f, n, sl, .code .ret :: td⟩, [], hp, nx⟩ := run_ret hv hc (fun _ _ _ hs hu => gives_of hs hu hcl e)
theorem isBo4 : IsBo Try.prog 4 := by show Try.prog.underlying 4 = some .bool; kernel_rfl
theorem rowEq71 : RowEq Try.prog 71 2 := by
  have hf : Try.prog.fieldsOf 71 = match Try.prog.underlying 71 with | some (.struct fs) => fs | _ => #[] := rfl
  have h : Try.prog.underlying 71 = some (.struct (Try.prog.fieldsOf 71)) := by
    rw [hf, Try.underlying71]
  refine ⟨h, by kernel_rfl, by kernel_rfl, by kernel_rfl, fun i f hi => ?_⟩
  rw [hf, Try.underlying71] at hi
  match i, hi with
  | 0, hi => injection hi with hi; subst hi; exact ⟨by decide, rfl, _, Try.underlying3⟩
  | 1, hi => injection hi with hi; subst hi; exact ⟨by decide, rfl, _, Try.underlying3⟩
  | i + 2, hi => cases hi
theorem isIf20 : IsIf Try.prog 20 := ⟨#[], by kernel_rfl⟩
theorem isPt23 : IsPt Try.prog 23 := ⟨66, by kernel_rfl⟩
theorem isSl41 : IsSl Try.prog 41 := ⟨3, by kernel_rfl⟩
abbrev zRow (n : Nat) : SO := .row 0 n n 1 (fun _ _ => i64 0) 3
theorem zeros_hc (n : Int) (h0 : 0 ≤ n) (h1 : n ≤ 35184372088832) : HC Try.prog 36 [i64 n] [] [] 0 (fun _ : Unit => True) (fun _ => ⟨.sq 0 0 0 1 n.toNat .own, [(0, zRow n.toNat)], 1⟩) := by
  refine hc_of_run Try.func36 rfl (fun B hB hpin => ?_)
  refine goU hB (sumOk_nil _) rfl rfl (by simp [conj]; omega) ?_
  refine run_retC hpin () trivial [0] rfl rfl (by simp [conj]) rfl ?_
  simp [conj, less_rfl]
  exact fun i _ => (Less.rfl : Less (i64 0) (i64 0))
def rcZ (n : Int) : RC := ⟨36, [i64 n], [], [], 0, .sq 0 0 0 1 n.toNat .own, [(0, zRow n.toNat)], 1, []⟩
theorem rcZ_ok (n : Int) (h0 : 0 ≤ n) (h1 : n ≤ 35184372088832) : RcOk Try.prog (rcZ n) := ⟨zeros_hc n h0 h1, rfl, Nat.zero_le _⟩
set_option maxHeartbeats 40000000 in
theorem works_pure : Pure Try.prog 8 [] .tt := by
  refine pure_of_run Try.func8 rfl (fun w' => ?_)
  refine goX (Base.all_ok _) 2000 rfl (by simp [conj, Fits_i64, isBo4, isIf20, isPt23, isSl41, rowEq71] <;> decide +kernel) ?_
  refine run_draw0 mixed (fun t => ?_)
  refine run_drawC (M := modeU []) 1 21 rfl named (Base.all_ok _) (sumOk_nil _) [(31 + 18, rcZ 2)] ⟨rcZ_ok 2 (by decide) (by decide), trivial⟩ rfl rfl rfl rfl rfl rfl (by simp [conj, Fits_i64, isBo4, isIf20, isPt23, isSl41, rowEq71] <;> decide +kernel) (fun t => ?_)
  refine run_drawE rfl ?_
  refine goX (Base.all_ok _) 2000 rfl (by simp [conj, Fits_i64, isBo4, isIf20, isPt23, isSl41, rowEq71] <;> decide +kernel) ?_
  refine run_draw0 mixed (fun t => ?_)
  refine run_drawC (M := modeU []) 1 21 rfl named (Base.all_ok _) (sumOk_nil _) [(119 + 18, rcZ 2)] ⟨rcZ_ok 2 (by decide) (by decide), trivial⟩ rfl rfl rfl rfl rfl rfl (by simp [conj, Fits_i64, isBo4, isIf20, isPt23, isSl41, rowEq71] <;> decide +kernel) (fun t => ?_)
  refine run_drawE rfl ?_
  refine goX (Base.all_ok _) 2000 rfl (by simp [conj, Fits_i64, isBo4, isIf20, isPt23, isSl41, rowEq71] <;> decide +kernel) ?_
  refine goX (Base.all_ok _) 3000 rfl (by simp [conj, Fits_i64, isBo4, isIf20, isPt23, isSl41, rowEq71] <;> decide +kernel) ?_
  refine goX (Base.all_ok _) 3000 rfl (by simp [conj, Fits_i64, isBo4, isIf20, isPt23, isSl41, rowEq71] <;> decide +kernel) ?_
  refine run_mdel rfl rfl (by simp [conj]) rfl rfl rfl ?_
  refine goX (Base.all_ok _) 3000 rfl (by simp [conj, Fits_i64, isBo4, isIf20, isPt23, isSl41, rowEq71] <;> decide +kernel) ?_
  exact fin rfl (by simp [conj]) rfl rfl
end Sx
