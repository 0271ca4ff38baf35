/- A call on features and on the reference. Conditions: as each theorem says. -/
import Derived.Test.YtaeelabbppjobaaFl
set_option linter.unusedSimpArgs false
set_option linter.unusedVariables false
namespace Sx
open Go Go.Proofs
set_option maxRecDepth 100000
/-- HostID and SetHostID are not entered either. -/
def modeQ (s : SumL) : Mode := { st := true, unr := false, inl := fun f => !hasN f [9, 10, 11, 12, 13, 14, 16, 17, 19, 20, 21, 23, 24, 25, 26, 35, 37, 39], sum := sumOf s, keep := fun _ => none }
theorem goQ {B : Base} (hB : B.ok) {ro : Hp} {f : FuncId} {R : Ending → World → Prop} {s : SumL} (hs : SumOk Try.prog (sumOf s)) {cs0 cs : List Prop} {c c0 c' : Cfg} (h0 : stepD Try.prog (modeQ s) ro c = some (cs0, c0)) (h : execG Try.prog (modeQ s) ro 400 cs0 c0 = (cs, c')) (hc : conj cs)
    (hr : Run Try.prog ro B f R c') : Run Try.prog ro B f R c := run_go mixed named hB hs 400 h0 h hc hr
/-- A call. -/
structure AC where
  k : Int
  id : Int
  v : Int
  sv : Bool
  h : Int
abbrev actV (a : AC) : SV := .agg [i64 a.k, u8 a.id, u32 a.v, .sb a.sv, u64 a.h]
def AC.ok (a : AC) : Prop := 0 ≤ a.v ∧ a.v < 4294967296
def FSt.act (q s : Int) (x : FSt) (a : AC) : FSt := if a.k = 0 then (x.set q s a.id a.v a.sv).x else if a.k = 1 then x.reset q else if a.k = 2 then x.setHost a.h else x
theorem set_bounds (q s : Int) (x : FSt) (id v : Int) (save : Bool) : (0 ≤ (x.set q s id v save).t ∧ (x.set q s id v save).t < 256) ∧ 0 ≤ (x.set q s id v save).c ∧ (x.set q s id v save).c < 256 := by
  unfold FSt.set
  cases isId id <;> cases (save && !savOf (idxOf id)) <;> cases alw s (idxOf id) v <;> simp
/-- The object under other names. -/
abbrev objN (q s : Int) (x : FSt) (a b c : Nat) : Hp := [(a, .cells [i64 q, i64 s, .mp b, .mp c, u64 x.host] 67), (b, .map .u8 isId (.ints .u32 x.vc)), (c, .map .u8 x.hs (.ints .u32 x.vs))]
theorem do_set (q s : Int) (h : 1 ≤ q ∧ q ≤ 65535) (hs : 1 ≤ s ∧ s ≤ 32) (x : FSt) (hhs : ∀ a, x.hs a = true → isId a = true) (a : AC) (ha : a.ok) (hk : a.k = 0) :
    HC Try.prog 12 [.ptr 0 0, refV q s x, actV a] (objH q s x) [] 3 (fun _ : Unit => True) (fun _ => ⟨.tup [.ptr 0 0, refV q s (x.act q s a), .tt], objH q s (x.act q s a), 3⟩) := by
  have e : x.act q s a = (x.set q s a.id a.v a.sv).x := by simp [FSt.act, hk]
  rw [e]
  refine hc_of_run Try.func12 rfl (fun B hB hpin => ?_)
  refine goQ hB s2_ok rfl rfl (by simp [conj]) ?_
  refine run_condT rfl (by simpa using hk) ?_
  refine goQ hB s2_ok rfl rfl (by simp [conj]) ?_
  refine run_callC (set_hc q s h hs x hhs a.id a.v ha a.sv) named hB [0, 1, 2] rfl rfl rfl rfl (by simp [conj]) (by simp [conj, less_rfl]) ?_
  rintro ⟨⟩ _
  refine ⟨show 3 ≤ 3 by omega, _, _, _, rfl, rfl, rfl, ?_⟩
  refine goQ hB s2_ok rfl rfl (by simp [conj]) ?_
  refine run_callC (refset_hc q s h x a.id a.v ha a.sv) named hB [] rfl rfl rfl rfl (by simp [conj]) (by simp [conj, less_rfl]) ?_
  rintro ⟨⟩ _
  refine ⟨show 0 ≤ 0 by omega, _, _, _, rfl, rfl, rfl, ?_⟩
  have hb := set_bounds q s x a.id a.v a.sv
  refine goQ hB s2_ok rfl rfl (by simp [conj, hb]) ?_
  exact run_retC hpin () trivial [0, 1, 2] rfl rfl (by simp [conj]) rfl (by simp [conj, less_rfl, codeOf])
theorem do_reset (q s : Int) (h : 1 ≤ q ∧ q ≤ 65535) (x : FSt) (hhs : ∀ a, x.hs a = true → isId a = true) (a : AC) (hk : a.k = 1) :
    HC Try.prog 12 [.ptr 0 0, refV q s x, actV a] (objH q s x) [] 3 (fun _ : Unit => True) (fun _ => ⟨.tup [.ptr 0 0, refV q s (x.act q s a), .tt], objH q s (x.act q s a), 3⟩) := by
  have e : x.act q s a = x.reset q := by simp [FSt.act, hk]
  rw [e]
  refine hc_of_run Try.func12 rfl (fun B hB hpin => ?_)
  refine goQ hB s2_ok rfl rfl (by simp [conj]) ?_
  refine run_condF rfl (by simp [hk]) ?_
  refine goQ hB s2_ok rfl rfl (by simp [conj]) ?_
  refine run_condT rfl (by simpa using hk) ?_
  refine goQ hB s2_ok rfl rfl (by simp [conj]) ?_
  refine run_callC (refreset_hc q s h x) named hB [] rfl rfl rfl rfl (by simp [conj]) (by simp [conj, less_rfl]) ?_
  rintro ⟨⟩ _
  refine ⟨show 0 ≤ 0 by omega, _, _, _, rfl, rfl, rfl, ?_⟩
  refine goQ hB s2_ok rfl rfl (by simp [conj]) ?_
  refine run_callC (reset_hc q s h isId x (fun _ h => h) hhs) named hB [0, 1, 2] rfl rfl rfl rfl (by simp [conj]) (by simp [conj, less_rfl]) ?_
  rintro ⟨⟩ _
  refine ⟨show 3 ≤ 3 by omega, _, _, _, rfl, rfl, rfl, ?_⟩
  refine goQ hB s2_ok rfl rfl (by simp [conj]) ?_
  exact run_retC hpin () trivial [0, 1, 2] rfl rfl (by simp [conj]) rfl (by simp [conj, less_rfl])
theorem do_host (q s : Int) (x : FSt) (a : AC) (hk : a.k = 2) :
    HC Try.prog 12 [.ptr 0 0, refV q s x, actV a] (objH q s x) [] 3 (fun _ : Unit => True) (fun _ => ⟨.tup [.ptr 0 0, refV q s (x.act q s a), .tt], objH q s (x.act q s a), 3⟩) := by
  have e : x.act q s a = x.setHost a.h := by simp [FSt.act, hk]
  rw [e]
  refine hc_of_run Try.func12 rfl (fun B hB hpin => ?_)
  refine goQ hB s2_ok rfl rfl (by simp [conj]) ?_
  refine run_condF rfl (by simp [hk]) ?_
  refine goQ hB s2_ok rfl rfl (by simp [conj]) ?_
  refine run_condF rfl (by simp [hk]) ?_
  refine goQ hB s2_ok rfl rfl (by simp [conj]) ?_
  refine run_condT rfl (by simpa using hk) ?_
  refine goQ hB s2_ok rfl rfl (by simp [conj]) ?_
  refine run_callC (sethost_hc q s x a.h) named hB [0, 1, 2] rfl rfl rfl rfl (by simp [conj]) (by simp [conj, less_rfl]) ?_
  rintro ⟨⟩ _
  refine ⟨show 3 ≤ 3 by omega, _, _, _, rfl, rfl, rfl, ?_⟩
  refine goQ hB s2_ok rfl rfl (by simp [conj]) ?_
  refine run_cond rfl (fun h0 => ?_) (fun h0 => ?_)
  · simp at h0
    refine goQ hB s2_ok rfl rfl (by simp [conj, h0]) ?_
    exact run_retC hpin () trivial [0, 1, 2] rfl rfl (by simp [conj]) rfl (by simp [conj, less_rfl, h0, FSt.setHost])
  · simp at h0
    refine goQ hB s2_ok rfl rfl (by simp [conj, h0]) ?_
    exact run_retC hpin () trivial [0, 1, 2] rfl rfl (by simp [conj]) rfl (by simp [conj, less_rfl, h0, FSt.setHost])
theorem do_copy (q s : Int) (x : FSt) (a : AC) (h0 : a.k ≠ 0) (h1 : a.k ≠ 1) (h2 : a.k ≠ 2) :
    HC Try.prog 12 [.ptr 0 0, refV q s x, actV a] (objH q s x) [] 3 (fun _ : Unit => True) (fun _ => ⟨.tup [.ptr 3 0, refV q s (x.act q s a), .tt], objN q s (x.act q s a) 3 4 5, 6⟩) := by
  have e : x.act q s a = x := by simp [FSt.act, h0, h1, h2]
  rw [e]
  refine hc_of_run Try.func12 rfl (fun B hB hpin => ?_)
  refine goQ hB s2_ok rfl rfl (by simp [conj]) ?_
  refine run_condF rfl (by simp [h0]) ?_
  refine goQ hB s2_ok rfl rfl (by simp [conj]) ?_
  refine run_condF rfl (by simp [h1]) ?_
  refine goQ hB s2_ok rfl rfl (by simp [conj]) ?_
  refine run_condF rfl (by simp [h2]) ?_
  refine goQ hB s2_ok rfl rfl (by simp [conj]) ?_
  refine run_callC (copy_hc q s x) named hB [0, 1, 2] rfl rfl rfl rfl (by simp [conj]) (by simp [conj, less_rfl]) ?_
  rintro ⟨⟩ _
  refine ⟨show 3 ≤ 6 by omega, _, _, _, rfl, rfl, rfl, ?_⟩
  refine goQ hB s2_ok rfl rfl (by simp [conj, isPt25]) ?_
  exact run_retC hpin () trivial [0, 1, 2, 6, 7, 8] rfl rfl (by simp [conj]) rfl (by simp [conj, less_rfl])
end Sx
