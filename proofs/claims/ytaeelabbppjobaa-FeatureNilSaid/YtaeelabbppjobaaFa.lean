/- The functions of package feature, of what it uses and of its reference that only compute: what each call gives. Conditions: as each theorem says. -/
import Derived.Test.YtaeelabbppjobaaProg
import Derived.KernelRfl
import Derived.Test.YtaeelabbppjobaaEngX4
set_option linter.unusedSimpArgs false
set_option linter.unusedVariables false
namespace Sx
open Go Go.Proofs
set_option maxRecDepth 100000
theorem named : Named Try.prog := by
  have h : Try.prog.funcs.toList.all (fun fn => !(fn.name == "runtime.NumGoroutine")) = true := by kernel_rfl
  intro f fn hf
  have hm : fn ∈ Try.prog.funcs.toList := Array.mem_toList_iff.2 (Array.mem_of_getElem? hf)
  have := List.all_eq_true.1 h fn hm
  simpa using this
theorem mixed : Try.prog.follows .mixedOrders = true := by kernel_rfl
def mode (s : SumL) : Mode := { st := true, unr := true, inl := fun _ => true, sum := sumOf s, keep := fun _ => none }
theorem Fits_i64 (x : Int) : Fits .i64 x ↔ -9223372036854775808 ≤ x ∧ x ≤ 9223372036854775807 := by
  simp [Fits, IntKind.min, IntKind.max, IntKind.signed, IntKind.bits]
/-- The steps of a function that only computes. -/
theorem ex {ro : Hp} {f : FuncId} {R : Ending → World → Prop} {w : World} {s : SumL} (hs : SumOk Try.prog (sumOf s)) (m : Nat) {cs : List Prop} {c c' : Cfg} (h : exec Try.prog (mode s) ro m [] c = (cs, c')) (hc : conj cs)
    (hr : Run Try.prog ro (Base.all w) f R c') : Run Try.prog ro (Base.all w) f R c := run_exec named (Base.all_ok w) hs m h hc hr
/-- The end. -/
theorem fin {f : FuncId} {w : World} {n : Nat} {sl : Slots} {td : List SI} {hp : Hp} {nx : Nat} {cs : List Prop} {v r : SV} (hv : resV Try.prog f sl hp [] = some (cs, v)) (hc : conj cs) (hcl : v.closed = true) (e : v = r) :
    Run Try.prog [] (Base.all w) f (Gives w r) ⟨⟨fid f, n, sl, .code .ret :: td⟩, [], hp, nx⟩ := run_ret hv hc (fun _ _ _ hs hu => gives_of hs hu hcl e)
theorem fin_tt {f : FuncId} {w : World} {n : Nat} {sl : Slots} {td : List SI} {hp : Hp} {nx : Nat} {cs : List Prop} {b : Bool} (hv : resV Try.prog f sl hp [] = some (cs, .tt)) (hc : conj cs) (e : b = true) :
    Run Try.prog [] (Base.all w) f (Gives w (.sb b)) ⟨⟨fid f, n, sl, .code .ret :: td⟩, [], hp, nx⟩ := run_ret hv hc (fun _ _ _ hs hu => gives_of (v := .sb true) hs hu rfl (by rw [e]))
theorem fin_ff {f : FuncId} {w : World} {n : Nat} {sl : Slots} {td : List SI} {hp : Hp} {nx : Nat} {cs : List Prop} {b : Bool} (hv : resV Try.prog f sl hp [] = some (cs, .ff)) (hc : conj cs) (e : b = false) :
    Run Try.prog [] (Base.all w) f (Gives w (.sb b)) ⟨⟨fid f, n, sl, .code .ret :: td⟩, [], hp, nx⟩ := run_ret hv hc (fun _ _ _ hs hu => gives_of (v := .sb false) hs hu rfl (by rw [e]))
theorem goN {B : Base} (hB : B.ok) {ro : Hp} {f : FuncId} {R : Ending → World → Prop} {s : SumL} (hs : SumOk Try.prog (sumOf s)) {cs0 cs : List Prop} {c c0 c' : Cfg} (h0 : stepD Try.prog (mode s) ro c = some (cs0, c0)) (h : execG Try.prog (mode s) ro 400 cs0 c0 = (cs, c')) (hc : conj cs)
    (hr : Run Try.prog ro B f R c') : Run Try.prog ro B f R c := run_go mixed named hB hs 400 h0 h hc hr
/-- Loops are left to their invariants. -/
def modeL (s : SumL) : Mode := { st := true, unr := false, inl := fun _ => true, sum := sumOf s, keep := fun _ => none }
theorem goL {B : Base} (hB : B.ok) {ro : Hp} {f : FuncId} {R : Ending → World → Prop} {s : SumL} (hs : SumOk Try.prog (sumOf s)) {cs0 cs : List Prop} {c c0 c' : Cfg} (h0 : stepD Try.prog (modeL s) ro c = some (cs0, c0)) (h : execG Try.prog (modeL s) ro 400 cs0 c0 = (cs, c')) (hc : conj cs)
    (hr : Run Try.prog ro B f R c') : Run Try.prog ro B f R c := run_go mixed named hB hs 400 h0 h hc hr
theorem ex0 {ro : Hp} {f : FuncId} {R : Ending → World → Prop} {w : World} {cs0 cs : List Prop} {c c0 c' : Cfg} (h0 : stepD Try.prog (mode []) ro c = some (cs0, c0)) (h : execG Try.prog (mode []) ro 400 cs0 c0 = (cs, c')) (hc : conj cs)
    (hr : Run Try.prog ro (Base.all w) f R c') : Run Try.prog ro (Base.all w) f R c := goN (Base.all_ok w) (sumOk_nil _) h0 h hc hr

abbrev u8 (a : Int) : SV := .int .u8 a
abbrev u16 (a : Int) : SV := .int .u16 a
abbrev u32 (a : Int) : SV := .int .u32 a
abbrev u64 (a : Int) : SV := .int .u64 a
abbrev i64 (a : Int) : SV := .int .i64 a
/-- A status. -/
abbrev stV (t c : Int) : SV := .agg [u8 t, u8 c, .ff, .ff]

theorem status2 : Pure Try.prog 29 [u16 2] (stV 0 2) := by
  refine pure_of_run Try.func29 rfl (fun w => ?_)
  refine ex0 rfl rfl (by simp [conj]) ?_
  exact fin rfl (by simp [conj]) rfl (by rfl)
theorem status6 : Pure Try.prog 29 [u16 6] (stV 0 6) := by
  refine pure_of_run Try.func29 rfl (fun w => ?_)
  refine ex0 rfl rfl (by simp [conj]) ?_
  exact fin rfl (by simp [conj]) rfl (by rfl)
theorem status269 : Pure Try.prog 29 [u16 269] (stV 1 13) := by
  refine pure_of_run Try.func29 rfl (fun w => ?_)
  refine ex0 rfl rfl (by simp [conj]) ?_
  exact fin rfl (by simp [conj]) rfl (by rfl)
def FGood : List SV → Option (List Prop × SV)
  | [.agg [.int .u8 t, .int .u8 c, .ff, .ff]] => some ([t = 0 ∨ (t = 1 ∧ c = 13), 0 ≤ c ∧ c < 256], .sb (decide (t = 0) && decide (c = 0)))
  | _ => none
theorem good_pure (t c : Int) (h : t = 0 ∨ (t = 1 ∧ c = 13)) (h2 : 0 ≤ c ∧ c < 256) : Pure Try.prog 28 [stV t c] (.sb (decide (t = 0) && decide (c = 0))) := by
  refine pure_of_run Try.func28 rfl (fun w => ?_)
  refine ex0 rfl rfl (by simp [conj]) ?_
  refine run_condT rfl (by decide) ?_
  refine ex0 rfl rfl (by simp [conj]) ?_
  have e1 : IntKind.u16.wrap ↑(BitVec.ofInt IntKind.u16.bits (IntKind.u16.wrap (IntKind.u16.wrap t * 2 ^ min (Int.toNat 8) IntKind.u16.bits)) ||| BitVec.ofInt IntKind.u16.bits (IntKind.u16.wrap c)).toNat = 256 * t + c := by
    rcases h with rfl | ⟨rfl, rfl⟩
    · have e0 : BitVec.ofInt IntKind.u16.bits (IntKind.u16.wrap (IntKind.u16.wrap 0 * 2 ^ min (Int.toNat 8) IntKind.u16.bits)) = BitVec.ofNat _ 0 := by decide
      rw [e0, BitVec.zero_or]
      simp [IntKind.wrap, IntKind.signed, IntKind.bits, BitVec.toNat_ofInt]
      omega
    · decide
  refine run_cond rfl (fun h => ?_) (fun h => ?_)
  · rw [e1] at h
    simp at h
    refine ex0 rfl rfl (by simp [conj]) ?_
    exact fin rfl (by simp [conj]) rfl (by
      have h1 : t = 0 := by omega
      have h3 : c = 0 := by omega
      subst h1 h3; rfl)
  · rw [e1] at h
    simp at h
    refine ex0 rfl rfl (by simp [conj, Fits_i64]) ?_
    refine run_condF rfl (by decide) ?_
    refine ex0 rfl rfl (by simp [conj]) ?_
    exact fin rfl (by simp [conj]) rfl (by
      have : (decide (t = 0) && decide (c = 0)) = false := by
        by_cases h1 : t = 0
        · subst h1; simp; omega
        · simp [h1]
      rw [this]; rfl)
theorem FGood_ok : PureOk Try.prog 28 FGood := by
  intro xs cs r h hc
  unfold FGood at h
  split at h <;> first | exact (none_ne h).elim | skip
  simp only [Option.some.injEq, Prod.mk.injEq] at h; obtain ⟨rfl, rfl⟩ := h
  exact ⟨rfl, good_pure _ _ hc.head hc.tail.head⟩
def FStat : List SV → Option (List Prop × SV)
  | [.int .u16 2] => some ([], stV 0 2)
  | [.int .u16 6] => some ([], stV 0 6)
  | [.int .u16 269] => some ([], stV 1 13)
  | _ => none
theorem FStat_ok : PureOk Try.prog 29 FStat := by
  intro xs cs r h hc
  unfold FStat at h
  split at h <;> first | exact (none_ne h).elim | skip
  all_goals simp only [Option.some.injEq, Prod.mk.injEq] at h; obtain ⟨rfl, rfl⟩ := h
  · exact ⟨rfl, status2⟩
  · exact ⟨rfl, status6⟩
  · exact ⟨rfl, status269⟩
def FIs : List SV → Option (List Prop × SV)
  | [.agg [.int .u8 t, .int .u8 c, .ff, .ff], .int .i64 k] => some ([0 ≤ t ∧ t < 256, 0 ≤ c ∧ c < 256], .sb (decide (256 * t + c = k)))
  | _ => none
theorem wrap_i64 {x : Int} (h1 : -9223372036854775808 ≤ x) (h2 : x ≤ 9223372036854775807) : IntKind.i64.wrap x = x := by
  simp [IntKind.wrap, IntKind.signed, IntKind.bits]
  omega
theorem is_pure (t c k : Int) (h1 : 0 ≤ t ∧ t < 256) (h2 : 0 ≤ c ∧ c < 256) : Pure Try.prog 15 [stV t c, i64 k] (.sb (decide (256 * t + c = k))) := by
  refine pure_of_run Try.func15 rfl (fun w => ?_)
  have e1 := wrap_i64 (x := t) (by omega) (by omega)
  have e2 := wrap_i64 (x := c) (by omega) (by omega)
  refine ex0 rfl rfl (by simp only [conj, Fits_i64, e1, e2, imp_self, true_and, and_true]; omega) ?_
  exact fin rfl (by simp [conj]) rfl (by rw [e1, e2])
theorem FIs_ok : PureOk Try.prog 15 FIs := by
  intro xs cs r h hc
  unfold FIs at h
  split at h <;> first | exact (none_ne h).elim | skip
  simp only [Option.some.injEq, Prod.mk.injEq] at h; obtain ⟨rfl, rfl⟩ := h
  exact ⟨rfl, is_pure _ _ _ hc.head hc.tail.head⟩
theorem and_mask (x : Int) (h1 : 0 ≤ x) (h2 : x < 18446744073709551616) : ((BitVec.ofInt 64 x &&& BitVec.ofInt 64 65535).toNat : Int) = x % 65536 := by
  obtain ⟨n, rfl⟩ := Int.eq_ofNat_of_zero_le h1
  have : (BitVec.ofInt 64 (n : Int) &&& BitVec.ofInt 64 65535).toNat = n % 65536 := by
    rw [BitVec.toNat_and]
    have e1 : (BitVec.ofInt 64 (n : Int)).toNat = n := by
      rw [BitVec.toNat_ofInt]; omega
    have e2 : (BitVec.ofInt 64 65535).toNat = 2 ^ 16 - 1 := by decide
    rw [e1, e2, Nat.and_two_pow_sub_one_eq_mod]
  rw [this]; omega
def uw (x : Int) : Int := IntKind.u64.wrap x
theorem half_val (x : Int) (h1 : 0 ≤ x) (h2 : x < 4294967296) (y : Int) (hy : y = x ∨ y = x / 65536) : IntKind.u32.wrap (IntKind.u64.wrap ↑(BitVec.ofInt IntKind.u64.bits y &&& BitVec.ofInt IntKind.u64.bits 65535).toNat) = y % 65536 := by
  have e := and_mask y (by rcases hy with rfl | rfl <;> omega) (by rcases hy with rfl | rfl <;> omega)
  show IntKind.u32.wrap (IntKind.u64.wrap ((BitVec.ofInt 64 y &&& BitVec.ofInt 64 65535).toNat : Int)) = _
  rw [e]
  simp [IntKind.wrap, IntKind.signed, IntKind.bits]
  omega
theorem Fits_u32 (x : Int) : Fits .u32 x ↔ 0 ≤ x ∧ x ≤ 4294967295 := by
  simp [Fits, IntKind.min, IntKind.max, IntKind.signed, IntKind.bits]
theorem u64_of (x : Int) (h1 : 0 ≤ x) (h2 : x < 4294967296) : IntKind.u64.wrap x = x := by
  simp [IntKind.wrap, IntKind.signed, IntKind.bits]
  omega
theorem half0_pure (v : Int) (h : 0 ≤ v ∧ v < 4294967296) : Pure Try.prog 48 [u32 v, i64 0] (u32 (v % 65536)) := by
  refine pure_of_run Try.func48 rfl (fun w => ?_)
  refine ex0 rfl rfl (by simp [conj, Fits_i64]) ?_
  refine run_condF rfl (by decide) ?_
  refine ex0 rfl rfl (by simp [conj, Fits_i64]) ?_
  exact fin rfl (by simp [conj]) rfl (by
    have e : (IntKind.u64.wrap v).fdiv (2 ^ min (Int.toNat (16 * 0)) IntKind.u64.bits) = v := by
      rw [u64_of v h.1 h.2]
      show v.fdiv 1 = v
      simp
    have := half_val v h.1 h.2 v (.inl rfl)
    have e2 : IntKind.u64.wrap (IntKind.u64.wrap (1 * 2 ^ min (Int.toNat 16) IntKind.u64.bits) - 1) = 65535 := by decide
    rw [← this, e, e2])
theorem half1_pure (v : Int) (h : 0 ≤ v ∧ v < 4294967296) : Pure Try.prog 48 [u32 v, i64 1] (u32 (v / 65536)) := by
  refine pure_of_run Try.func48 rfl (fun w => ?_)
  refine ex0 rfl rfl (by simp [conj, Fits_i64]) ?_
  refine run_condF rfl (by decide) ?_
  refine ex0 rfl rfl (by simp [conj, Fits_i64]) ?_
  exact fin rfl (by simp [conj]) rfl (by
    have e : (IntKind.u64.wrap v).fdiv (2 ^ min (Int.toNat (16 * 1)) IntKind.u64.bits) = v / 65536 := by
      rw [u64_of v h.1 h.2]
      show v.fdiv 65536 = v / 65536
      rw [Int.fdiv_eq_ediv]; simp
    have := half_val v h.1 h.2 (v / 65536) (.inr rfl)
    have e2 : IntKind.u64.wrap (IntKind.u64.wrap (1 * 2 ^ min (Int.toNat 16) IntKind.u64.bits) - 1) = 65535 := by decide
    have e3 : v / 65536 % 65536 = v / 65536 := by omega
    rw [e3] at this
    rw [← this, e, e2])
def FHalf : List SV → Option (List Prop × SV)
  | [.int .u32 v, .int .i64 0] => some ([0 ≤ v ∧ v < 4294967296], u32 (v % 65536))
  | [.int .u32 v, .int .i64 1] => some ([0 ≤ v ∧ v < 4294967296], u32 (v / 65536))
  | _ => none
theorem FHalf_ok : PureOk Try.prog 48 FHalf := by
  intro xs cs r h hc
  unfold FHalf at h
  split at h <;> first | exact (none_ne h).elim | skip
  all_goals simp only [Option.some.injEq, Prod.mk.injEq] at h; obtain ⟨rfl, rfl⟩ := h
  · exact ⟨rfl, half0_pure _ hc.head⟩
  · exact ⟨rfl, half1_pure _ hc.head⟩
def s1 : SumL := [(48, FHalf), (15, FIs), (29, FStat), (28, FGood)]
theorem s1_ok : SumOk Try.prog (sumOf s1) := sumOk_cons FHalf_ok (sumOk_cons FIs_ok (sumOk_cons FStat_ok (sumOk_cons FGood_ok (sumOk_nil _))))
theorem ex1 {ro : Hp} {f : FuncId} {R : Ending → World → Prop} {w : World} {cs0 cs : List Prop} {c c0 c' : Cfg} (h0 : stepD Try.prog (mode s1) ro c = some (cs0, c0)) (h : execG Try.prog (mode s1) ro 400 cs0 c0 = (cs, c')) (hc : conj cs)
    (hr : Run Try.prog ro (Base.all w) f R c') : Run Try.prog ro (Base.all w) f R c := goN (Base.all_ok w) s1_ok h0 h hc hr
def al5 (v : Int) : Bool := !decide (v % 65536 = 65535) && !decide (v / 65536 = 65535)
theorem list2_pure (v : Int) (h : 0 ≤ v ∧ v < 4294967296) : Pure Try.prog 47 [u32 v] (.sb (al5 v)) := by
  refine pure_of_run Try.func47 rfl (fun w => ?_)
  refine ex1 rfl rfl (by simp [conj, h]) ?_
  exact fin rfl (by simp [conj]) rfl rfl
/-- The index of a feature in the reference's list, or -1. -/
def idxOf (x : Int) : Int := if x = 1 then 0 else if x = 2 then 1 else if x = 4 then 2 else if x = 5 then 3 else if x = 6 then 4 else if x = 7 then 5 else if x = 8 then 6 else if x = 10 then 7 else if x = 11 then 8 else if x = 15 then 9 else if x = 130 then 10 else if x = 131 then 11 else -1
theorem index_pure (x : Int) : Pure Try.prog 30 [u8 x] (i64 (idxOf x)) := by
  refine pure_of_run Try.func30 rfl (fun w => ?_)
  refine ex0 rfl rfl (by simp [conj]) ?_
  iterate 12
    refine run_condT rfl (by decide) ?_
    refine ex0 rfl rfl (by simp [conj, Fits_i64]) ?_
    refine run_cond rfl (fun h => ?_) (fun h => ?_)
    · simp at h
      subst h
      refine ex0 rfl rfl (by simp [conj]) ?_
      exact fin rfl (by simp [conj]) rfl (by rfl)
    refine ex0 rfl rfl (by simp [conj, Fits_i64]) ?_
  refine run_condF rfl (by decide) ?_
  refine ex0 rfl rfl (by simp [conj]) ?_
  exact fin rfl (by simp [conj]) rfl (by
    simp only [decide_eq_false_iff_not] at *
    unfold idxOf
    simp only [eq_comm (a := x)]
    simp [*])
end Sx
