/- The functions of package victim and of its reference that only compute: what each call gives. Conditions: as each theorem says. -/
import Derived.Test.YtpjabkjacldgcaaProg
import Derived.KernelRfl
import Derived.Test.YtpjabkjacldgcaaEng18
namespace Sx
open Go Go.Proofs
theorem named : Named Try.prog := by
  have h : Try.prog.funcs.toList.all (fun fn => !(fn.name == "runtime.NumGoroutine")) = true := by kernel_rfl
  intro f fn hf
  have hm : fn ∈ Try.prog.funcs.toList := Array.mem_toList_iff.2 (Array.mem_of_getElem? hf)
  have := List.all_eq_true.1 h fn hm
  simpa using this
theorem mixed : Try.prog.follows .mixedOrders = true := by kernel_rfl
def mode (s : SumL) : Mode := { st := true, unr := false, inl := fun _ => true, sum := sumOf s, keep := fun _ => none }
theorem Fits_i64 (x : Int) : Fits .i64 x ↔ -9223372036854775808 ≤ x ∧ x ≤ 9223372036854775807 := by
  simp [Fits, IntKind.min, IntKind.max, IntKind.signed, IntKind.bits]
/-- The steps of a function that only computes. -/
theorem ex {ro : Hp} {f : FuncId} {R : Ending → World → Prop} {w : World} {s : SumL} (hs : SumOk Try.prog (sumOf s)) (m : Nat) {cs : List Prop} {c c' : Cfg} (h : exec Try.prog (mode s) ro m [] c = (cs, c')) (hc : conj cs)
    (hr : Run Try.prog ro (Base.all w) f R c') : Run Try.prog ro (Base.all w) f R c := run_exec named (Base.all_ok w) hs m h hc hr
/-- The end. -/
theorem fin {f : FuncId} {w : World} {n : Nat} {sl : Slots} {td : List SI} {hp : Hp} {nx : Nat} {cs : List Prop} {v r : SV} (hv : resV Try.prog f sl hp [] = some (cs, v)) (hc : conj cs) (hcl : v.closed = true) (e : v = r) :
    Run Try.prog [] (Base.all w) f (Gives w r) ⟨⟨fid f, n, sl, .code .ret :: td⟩, [], hp, nx⟩ := run_ret hv hc (fun _ _ _ hs hu => gives_of hs hu hcl e)

abbrev cand (b v p a : Int) : SV := .agg [.int .i64 b, .int .i64 v, .int .i64 p, .int .i64 a]
def rightB (v p a : Int) : Bool := decide (1 ≤ p) && decide (p ≤ 512) && decide (0 ≤ v) && decide (v ≤ p) && decide (0 ≤ a) && decide (a ≤ 1099511627776)
theorem rightB_iff (v p a : Int) : rightB v p a = true ↔ 1 ≤ p ∧ p ≤ 512 ∧ 0 ≤ v ∧ v ≤ p ∧ 0 ≤ a ∧ a ≤ 1099511627776 := by simp [rightB, and_assoc]
def scN (v p a : Int) : Int := if v = 0 then 1 else (p - v) * a
def scD (v : Int) : Int := if v = 0 then 0 else 2 * v

theorem valid_pure (b v p a : Int) : Pure Try.prog 23 [cand b v p a] (.sb (rightB v p a)) := by
  refine pure_of_run Try.func23 rfl (fun w => ?_)
  refine ex (sumOk_nil _) 300 rfl (by simp [conj]) ?_
  exact fin rfl (by simp [conj]) rfl rfl
theorem useful_pure (b v p a : Int) : Pure Try.prog 24 [cand b v p a] (.sb (decide (v < p))) := by
  refine pure_of_run Try.func24 rfl (fun w => ?_)
  refine ex (sumOk_nil _) 300 rfl (by simp [conj]) ?_
  exact fin rfl (by simp [conj]) rfl rfl
theorem right_pure (b v p a : Int) : Pure Try.prog 19 [cand b v p a] (.sb (rightB v p a)) := by
  refine pure_of_run Try.func19 rfl (fun w => ?_)
  refine ex (sumOk_nil _) 300 rfl (by simp [conj]) ?_
  exact fin rfl (by simp [conj]) rfl rfl
theorem mul_bound (x a : Int) (h1 : 0 ≤ x) (h2 : x ≤ 512) (h3 : 0 ≤ a) (h4 : a ≤ 1099511627776) : 0 ≤ x * a ∧ x * a ≤ 562949953421312 :=
  ⟨Int.mul_nonneg h1 h3, by have := Int.mul_le_mul h2 h4 h3 (by omega); omega⟩
theorem score_pure (b v p a : Int) (h : rightB v p a = true) : Pure Try.prog 25 [cand b v p a] (.agg [.int .i64 (scN v p a), .int .i64 (scD v)]) := by
  refine pure_of_run Try.func25 rfl (fun w => ?_)
  refine ex (sumOk_nil _) 300 rfl (by simp [conj]) ?_
  rw [rightB_iff] at h
  refine run_cond rfl (fun h0 => ?_) (fun h0 => ?_)
  · simp at h0
    refine ex (sumOk_nil _) 300 rfl (by simp [conj]) ?_
    exact fin rfl (by simp [conj]) rfl (by simp [scN, scD, h0])
  · simp at h0
    have := mul_bound (p - v) a (by omega) (by omega) (by omega) (by omega)
    refine ex (sumOk_nil _) 300 rfl (by simp only [conj, Fits_i64, and_true, true_and]; omega) ?_
    exact fin rfl (by simp [conj]) rfl (by simp [scN, scD, h0])
def F23 : List SV → Option (List Prop × SV)
  | [.agg [.int .i64 _, .int .i64 v, .int .i64 p, .int .i64 a]] => some ([], .sb (rightB v p a))
  | _ => none
def F24 : List SV → Option (List Prop × SV)
  | [.agg [.int .i64 _, .int .i64 v, .int .i64 p, .int .i64 _]] => some ([], .sb (decide (v < p)))
  | _ => none
def F25 : List SV → Option (List Prop × SV)
  | [.agg [.int .i64 _, .int .i64 v, .int .i64 p, .int .i64 a]] => some ([rightB v p a = true], .agg [.int .i64 (scN v p a), .int .i64 (scD v)])
  | _ => none
theorem F23_ok : PureOk Try.prog 23 F23 := by
  intro xs cs r h hc
  unfold F23 at h
  split at h <;> first | exact (none_ne h).elim | skip
  simp only [Option.some.injEq, Prod.mk.injEq] at h; obtain ⟨rfl, rfl⟩ := h
  exact ⟨rfl, valid_pure _ _ _ _⟩
theorem F19_ok : PureOk Try.prog 19 F23 := by
  intro xs cs r h hc
  unfold F23 at h
  split at h <;> first | exact (none_ne h).elim | skip
  simp only [Option.some.injEq, Prod.mk.injEq] at h; obtain ⟨rfl, rfl⟩ := h
  exact ⟨rfl, right_pure _ _ _ _⟩
theorem F24_ok : PureOk Try.prog 24 F24 := by
  intro xs cs r h hc
  unfold F24 at h
  split at h <;> first | exact (none_ne h).elim | skip
  simp only [Option.some.injEq, Prod.mk.injEq] at h; obtain ⟨rfl, rfl⟩ := h
  exact ⟨rfl, useful_pure _ _ _ _⟩
theorem F25_ok : PureOk Try.prog 25 F25 := by
  intro xs cs r h hc
  unfold F25 at h
  split at h <;> first | exact (none_ne h).elim | skip
  simp only [Option.some.injEq, Prod.mk.injEq] at h; obtain ⟨rfl, rfl⟩ := h
  exact ⟨rfl, score_pure _ _ _ _ hc.head⟩

def F34 : List SV → Option (List Prop × SV)
  | [.int .i64 _] => some ([], .ff)
  | _ => none
theorem F34_ok : PureOk Try.prog 34 F34 := by
  intro xs cs r h hc
  unfold F34 at h
  split at h <;> first | exact (none_ne h).elim | skip
  simp only [Option.some.injEq, Prod.mk.injEq] at h; obtain ⟨rfl, rfl⟩ := h
  refine ⟨rfl, pure_of_run Try.func34 rfl (fun w => ?_)⟩
  refine ex (sumOk_nil _) 300 rfl (by simp [conj]) ?_
  exact run_ret rfl (by simp [conj]) (fun β w' u hs hu => gives_of (v := .ff) hs (by simpa [Rel] using hu) rfl rfl)
def s1 : SumL := [(34, F34)]
theorem s1_ok : SumOk Try.prog (sumOf s1) := sumOk_cons F34_ok (sumOk_nil _)
def cmpI (a b : Int) : Int := if a < b then -1 else if b < a then 1 else 0
theorem cmp_pure (a b : Int) : Pure Try.prog 31 [.int .i64 a, .int .i64 b] (.int .i64 (cmpI a b)) := by
  refine pure_of_run Try.func31 rfl (fun w => ?_)
  refine ex s1_ok 300 rfl (by simp [conj]) ?_
  refine run_cond rfl (fun h => ?_) (fun h => ?_)
  · simp at h
    refine ex s1_ok 300 rfl (by simp [conj]) ?_
    exact fin rfl (by simp [conj]) rfl (by simp [cmpI, h])
  · simp at h
    refine ex s1_ok 300 rfl (by simp [conj]) ?_
    refine run_cond rfl (fun h2 => ?_) (fun h2 => ?_)
    · simp at h2
      refine ex s1_ok 300 rfl (by simp [conj]) ?_
      exact fin rfl (by simp [conj]) rfl (by simp [cmpI, h2]; omega)
    · simp at h2
      refine ex s1_ok 300 rfl (by simp [conj]) ?_
      exact fin rfl (by simp [conj]) rfl (by simp [cmpI]; omega)
end Sx
