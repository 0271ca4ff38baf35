/- Package arbiter and its reference: the functions that only compute. Conditions: as each theorem says. -/
import Derived.Test.YtkoeikjcnancdaaProg
import Derived.KernelRfl
import Derived.Test.YtkoeikjcnancdaaEngX4
set_option linter.unusedSimpArgs false
set_option linter.unusedVariables false
namespace Sx
open Go Go.Proofs
set_option maxRecDepth 100000
theorem named : Named Try.prog := by
  have h : Try.prog.funcs.toList.all (fun fn => !(fn.name == "runtime.NumGoroutine")) = true := by kernel_rfl
  intro f fn hf
  have hm : fn ∈ Try.prog.funcs.toList := Array.mem_toList_iff.2 (Array.mem_of_getElem? hf)
  have := List.all_eq_true.1 h fn hm
  simpa using this
theorem mixed : Try.prog.follows .mixedOrders = true := by kernel_rfl
theorem Fits_i64 (x : Int) : Fits .i64 x ↔ -9223372036854775808 ≤ x ∧ x ≤ 9223372036854775807 := by
  simp [Fits, IntKind.min, IntKind.max, IntKind.signed, IntKind.bits]
abbrev i64 (a : Int) : SV := .int .i64 a
/-- The functions with a contract. -/
abbrev cf : List Nat := [10, 11, 12, 13, 14, 15, 17, 18, 19, 20, 21, 22, 23, 24, 26, 28, 30, 31, 32, 33, 34, 35, 36, 37, 38, 40, 41, 42, 43, 46, 48, 49, 51, 52, 53, 54, 55, 56, 59, 62]
def modeK (s : SumL) : Mode := { st := true, unr := false, inl := fun f => !hasN f cf, sum := sumOf s, keep := fun _ => none }
theorem goK {B : Base} (hB : B.ok) {ro : Hp} {f : FuncId} {R : Ending → World → Prop} {s : SumL} (hs : SumOk Try.prog (sumOf s)) {cs0 cs : List Prop} {c c0 c' : Cfg} (h0 : stepD Try.prog (modeK s) ro c = some (cs0, c0)) (h : execG Try.prog (modeK s) ro 400 cs0 c0 = (cs, c')) (hc : conj cs)
    (hr : Run Try.prog ro B f R c') : Run Try.prog ro B f R c := run_go mixed named hB hs 400 h0 h hc hr
/-- Loops whose bounds are known are gone through. -/
def modeU (s : SumL) : Mode := { st := true, unr := true, inl := fun f => !hasN f cf, sum := sumOf s, keep := fun _ => none }
theorem goU {B : Base} (hB : B.ok) {ro : Hp} {f : FuncId} {R : Ending → World → Prop} {s : SumL} (hs : SumOk Try.prog (sumOf s)) {cs0 cs : List Prop} {c c0 c' : Cfg} (h0 : stepD Try.prog (modeU s) ro c = some (cs0, c0)) (h : execG Try.prog (modeU s) ro 400 cs0 c0 = (cs, c')) (hc : conj cs)
    (hr : Run Try.prog ro B f R c') : Run Try.prog ro B f R c := run_go mixed named hB hs 400 h0 h hc hr
theorem ex0 {ro : Hp} {f : FuncId} {R : Ending → World → Prop} {w : World} {cs0 cs : List Prop} {c c0 c' : Cfg} (h0 : stepD Try.prog (modeU []) ro c = some (cs0, c0)) (h : execG Try.prog (modeU []) ro 400 cs0 c0 = (cs, c')) (hc : conj cs)
    (hr : Run Try.prog ro (Base.all w) f R c') : Run Try.prog ro (Base.all w) f R c := goU (Base.all_ok w) (sumOk_nil _) h0 h hc hr
theorem fin {f : FuncId} {w : World} {n : Nat} {sl : Slots} {td : List SI} {hp : Hp} {nx : Nat} {cs : List Prop} {v r : SV} (hv : resV Try.prog f sl hp [] = some (cs, v)) (hc : conj cs) (hcl : v.closed = true) (e : v = r) :
    Run Try.prog [] (Base.all w) f (Gives w r) ⟨⟨fid f, n, sl, .code .ret :: td⟩, [], hp, nx⟩ := run_ret hv hc (fun _ _ _ hs hu => gives_of hs hu hcl e)
theorem fin_tt {f : FuncId} {w : World} {n : Nat} {sl : Slots} {td : List SI} {hp : Hp} {nx : Nat} {cs : List Prop} {b : Bool} (hv : resV Try.prog f sl hp [] = some (cs, .tt)) (hc : conj cs) (e : b = true) :
    Run Try.prog [] (Base.all w) f (Gives w (.sb b)) ⟨⟨fid f, n, sl, .code .ret :: td⟩, [], hp, nx⟩ := run_ret hv hc (fun _ _ _ hs hu => gives_of (v := .sb true) hs hu rfl (by rw [e]))
theorem fin_ff {f : FuncId} {w : World} {n : Nat} {sl : Slots} {td : List SI} {hp : Hp} {nx : Nat} {cs : List Prop} {b : Bool} (hv : resV Try.prog f sl hp [] = some (cs, .ff)) (hc : conj cs) (e : b = false) :
    Run Try.prog [] (Base.all w) f (Gives w (.sb b)) ⟨⟨fid f, n, sl, .code .ret :: td⟩, [], hp, nx⟩ := run_ret hv hc (fun _ _ _ hs hu => gives_of (v := .sb false) hs hu rfl (by rw [e]))

def burstOk (b : Int) : Bool := decide (b = 0 ∨ b = 1 ∨ b = 2 ∨ b = 4 ∨ b = 8 ∨ b = 16 ∨ b = 32 ∨ b = 64 ∨ b = 128)
def wOk (x : Int) : Bool := decide (1 ≤ x ∧ x ≤ 256)
def okC (w : Bool) (b hi me lo : Int) : Bool := burstOk b && (!w || (wOk hi && wOk me && wOk lo))
abbrev cfgV (w : Bool) (b hi me lo : Int) : SV := .agg [.sb w, i64 b, i64 hi, i64 me, i64 lo]
theorem and_burst : ∀ n : Fin 129, (decide (IntKind.i64.wrap ((BitVec.ofInt IntKind.i64.bits (n.val : Int) &&& BitVec.ofInt IntKind.i64.bits ((n.val : Int) - 1)).toNat : Int) = 0)) = burstOk n.val := by decide +kernel
theorem burst_and {b : Int} (h0 : 0 ≤ b) (h1 : b ≤ 128) : (IntKind.i64.wrap ((BitVec.ofInt IntKind.i64.bits b &&& BitVec.ofInt IntKind.i64.bits (b - 1)).toNat : Int) = 0) ↔ burstOk b = true := by
  have := and_burst ⟨b.toNat, by omega⟩
  simp only [show ((b.toNat : Nat) : Int) = b by omega] at this
  rw [← this, decide_eq_true_iff]
theorem burst_range {b : Int} (h : burstOk b = true) : 0 ≤ b ∧ b ≤ 128 := by
  simp [burstOk] at h; omega
theorem valid_pure (w : Bool) (b hi me lo : Int) : Pure Try.prog 46 [cfgV w b hi me lo] (.sb (okC w b hi me lo)) := by
  refine pure_of_run Try.func46 rfl (fun w' => ?_)
  refine ex0 rfl rfl (by simp [conj, Fits_i64]; try omega) ?_
  refine run_cond rfl (fun h => ?_) (fun h => ?_)
  · refine ex0 rfl rfl (by simp [conj]) ?_
    refine fin_ff rfl (by simp [conj]) ?_
    cases hb : burstOk b with
    | false => simp [okC, hb]
    | true =>
      have hr := burst_range hb
      have := (burst_and hr.1 hr.2).2 hb
      rw [this] at h
      simp at h <;> omega
  have hb : burstOk b = true := by
    simp at h
    exact (burst_and h.1.1 h.1.2).1 h.2
  have key : ∀ x : Int, (w && (decide (x < 1) || decide (256 < x))) = !(!w || wOk x) := by
    intro x
    cases w with
    | false => rfl
    | true =>
      rw [Bool.eq_iff_iff]
      simp [wOk]
  clear h
  refine ex0 rfl rfl (by simp +contextual [conj]) ?_
  refine run_condT rfl (by decide) ?_
  refine ex0 rfl rfl (by simp +contextual [conj]) ?_
  refine run_cond rfl (fun h => ?_) (fun h => ?_)
  · refine ex0 rfl rfl (by simp +contextual [conj]) ?_
    refine fin_ff rfl (by simp [conj]) ?_
    rw [key] at h
    cases w <;> simp_all [okC]
  rw [key] at h
  refine ex0 rfl rfl (by simp [conj, Fits_i64]) ?_
  refine run_condT rfl (by decide) ?_
  refine ex0 rfl rfl (by simp +contextual [conj]) ?_
  refine run_cond rfl (fun h => ?_) (fun h2 => ?_)
  · refine ex0 rfl rfl (by simp +contextual [conj]) ?_
    refine fin_ff rfl (by simp [conj]) ?_
    rw [key] at h
    cases w <;> simp_all [okC]
  rw [key] at h2
  refine ex0 rfl rfl (by simp [conj, Fits_i64]) ?_
  refine run_condT rfl (by decide) ?_
  refine ex0 rfl rfl (by simp +contextual [conj]) ?_
  refine run_cond rfl (fun h => ?_) (fun h3 => ?_)
  · refine ex0 rfl rfl (by simp +contextual [conj]) ?_
    refine fin_ff rfl (by simp [conj]) ?_
    rw [key] at h
    cases w <;> simp_all [okC]
  rw [key] at h3
  refine ex0 rfl rfl (by simp [conj, Fits_i64]) ?_
  refine run_condF rfl (by decide) ?_
  refine ex0 rfl rfl (by simp +contextual [conj]) ?_
  refine fin_tt rfl (by simp [conj]) ?_
  cases w <;> simp_all [okC]
theorem refvalid_pure (w : Bool) (b hi me lo : Int) : Pure Try.prog 15 [cfgV w b hi me lo] (.sb (okC w b hi me lo)) := by
  refine pure_of_run Try.func15 rfl (fun w' => ?_)
  cases hb : burstOk b with
  | false =>
    have hb' := hb
    simp [burstOk] at hb'
    obtain ⟨h1, h2, h3, h4, h5, h6, h7, h8, h9⟩ := hb'
    repeat (refine ex0 rfl rfl (by simp [conj]) ?_; refine run_condF rfl (by simp; assumption) ?_)
    refine ex0 rfl rfl (by simp [conj]) ?_
    exact fin_ff rfl (by simp [conj]) (by simp [okC, hb])
  | true =>
    have hb' := hb
    simp [burstOk] at hb'
    rcases hb' with rfl | rfl | rfl | rfl | rfl | rfl | rfl | rfl | rfl
    all_goals
      repeat (refine ex0 rfl rfl (by simp [conj]) ?_; first | refine run_condF rfl (by decide) ?_ | refine run_condT rfl (by decide) ?_)
      refine ex0 rfl rfl (by simp [conj]) ?_
      refine run_cond rfl (fun h => ?_) (fun h => ?_)
      · refine ex0 rfl rfl (by simp [conj]) ?_
        exact fin_tt rfl (by simp [conj]) (by simp at h; simp [okC, hb, h])
      · refine ex0 rfl rfl (by simp +contextual [conj]) ?_
        exact fin rfl (by simp [conj]) rfl (by simp at h; simp [okC, hb, h, wOk, Bool.and_assoc])
def FVal : List SV → Option (List Prop × SV)
  | [.agg [.sb w, .int .i64 b, .int .i64 hi, .int .i64 me, .int .i64 lo]] => some ([], .sb (okC w b hi me lo))
  | _ => none
theorem FVal46 : PureOk Try.prog 46 FVal := by
  intro xs cs r h hc
  unfold FVal at h
  split at h <;> first | exact (none_ne h).elim | skip
  simp only [Option.some.injEq, Prod.mk.injEq] at h; obtain ⟨rfl, rfl⟩ := h
  exact ⟨rfl, valid_pure _ _ _ _ _⟩
theorem FVal15 : PureOk Try.prog 15 FVal := by
  intro xs cs r h hc
  unfold FVal at h
  split at h <;> first | exact (none_ne h).elim | skip
  simp only [Option.some.injEq, Prod.mk.injEq] at h; obtain ⟨rfl, rfl⟩ := h
  exact ⟨rfl, refvalid_pure _ _ _ _ _⟩
def s1 : SumL := [(46, FVal), (15, FVal)]
theorem s1_ok : SumOk Try.prog (sumOf s1) := sumOk_cons FVal46 (sumOk_cons FVal15 (sumOk_nil _))
end Sx
