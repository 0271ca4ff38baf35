/- New, Configure, Add, Remove, class. Conditions: as each theorem says. -/
import Derived.Test.YtkoeikjcnancdaaAa
set_option linter.unusedSimpArgs false
set_option linter.unusedVariables false
namespace Sx
open Go Go.Proofs
set_option maxRecDepth 100000
/-- An arbiter: its configuration, its queues with their classes, the queues picked last, the credits. -/
structure ASt where
  w : Bool
  b : Int
  hi : Int
  me : Int
  lo : Int
  h : Int → Bool
  v : Int → Int
  l0 : Int
  l1 : Int
  l2 : Int
  l3 : Int
  c0 : Int
  c1 : Int
  c2 : Int
  c3 : Int
abbrev objL (s : ASt) (m : Nat) : List SV := [.sb s.w, i64 s.b, i64 s.hi, i64 s.me, i64 s.lo, .mp m, i64 s.l0, i64 s.l1, i64 s.l2, i64 s.l3, i64 s.c0, i64 s.c1, i64 s.c2, i64 s.c3]
abbrev objN (s : ASt) (a m : Nat) : Hp := [(a, .cells (objL s m) 70), (m, .map .i64 s.h (.ints .i64 s.v))]
abbrev objH (s : ASt) : Hp := objN s 0 1
def ASt.refill (s : ASt) : ASt := { s with c0 := 0, c1 := s.hi, c2 := s.me, c3 := s.lo }
def ASt.conf (s : ASt) (w : Bool) (b hi me lo : Int) : ASt := { s with w := w, b := b, hi := hi, me := me, lo := lo, c0 := 0, c1 := hi, c2 := me, c3 := lo }
def aNew (w : Bool) (b hi me lo : Int) : ASt := ⟨w, b, hi, me, lo, fun _ => false, fun _ => 0, -1, -1, -1, -1, 0, hi, me, lo⟩
theorem isPt25 : IsPt Try.prog 25 := ⟨_, Try.underlying25⟩
theorem isMp68 : IsMp Try.prog 68 := ⟨_, _, Try.underlying68⟩
def confE (w : Bool) (b hi me lo : Int) : Int := if okC w b hi me lo then 0 else 2
def ASt.confS (s : ASt) (w : Bool) (b hi me lo : Int) : ASt := if okC w b hi me lo then s.conf w b hi me lo else s
theorem conf_hc (s : ASt) (w : Bool) (b hi me lo : Int) : HC Try.prog 24 [.ptr 0 0, cfgV w b hi me lo] (objH s) [] 2 (fun _ : Unit => True) (fun _ => ⟨i64 (confE w b hi me lo), objH (s.confS w b hi me lo), 2⟩) := by
  refine hc_of_run Try.func24 rfl (fun B hB hpin => ?_)
  refine goK hB s1_ok rfl rfl (by simp [conj, isPt25, isMp68]) ?_
  refine run_condF rfl rfl ?_
  refine goK hB s1_ok rfl rfl (by simp [conj]) ?_
  refine run_cond rfl (fun h => ?_) (fun h => ?_)
  · have h : okC w b hi me lo = false := by simpa using h
    refine goK hB s1_ok rfl rfl (by simp [conj]) ?_
    exact run_retC hpin () trivial [0, 1] rfl rfl (by simp [conj]) rfl (by simp [conj, less_rfl, confE, ASt.confS, h])
  · have h : okC w b hi me lo = true := by simpa using h
    refine goK hB s1_ok rfl rfl (by simp [conj]) ?_
    exact run_retC hpin () trivial [0, 1] rfl rfl (by simp [conj]) rfl (by simp [conj, less_rfl, confE, ASt.confS, ASt.conf, h])
theorem conf_new (w : Bool) (b hi me lo : Int) (h : okC w b hi me lo = true) : (aNew false 0 0 0 0).confS w b hi me lo = aNew w b hi me lo := by
  simp [ASt.confS, h, ASt.conf, aNew]
theorem new_ok (w : Bool) (b hi me lo : Int) (h : okC w b hi me lo = true) : HC Try.prog 10 [cfgV w b hi me lo] [] [] 0 (fun _ : Unit => True) (fun _ => ⟨.tup [.ptr 0 0, i64 0], objH (aNew w b hi me lo), 2⟩) := by
  refine hc_of_run Try.func10 rfl (fun B hB hpin => ?_)
  refine goK hB s1_ok rfl rfl (by simp [conj]) ?_
  have hc := conf_hc (aNew false 0 0 0 0) w b hi me lo
  rw [conf_new _ _ _ _ _ h, show confE w b hi me lo = 0 by simp [confE, h]] at hc
  refine run_callC hc named hB [2, 1] rfl rfl rfl rfl (by simp [conj]) (by simp [conj, less_rfl, aNew]) ?_
  rintro ⟨⟩ _
  refine ⟨show 2 ≤ 2 by omega, _, _, _, rfl, rfl, rfl, ?_⟩
  refine goK hB s1_ok rfl rfl (by simp [conj]) ?_
  refine run_condF rfl rfl ?_
  refine goK hB s1_ok rfl rfl (by simp [conj]) ?_
  exact run_retC hpin () trivial [2, 1] rfl rfl (by simp [conj]) rfl (by simp [conj, less_rfl])
theorem new_bad (w : Bool) (b hi me lo : Int) (h : okC w b hi me lo = false) : HC Try.prog 10 [cfgV w b hi me lo] [] [] 0 (fun _ : Unit => True) (fun _ => ⟨.tup [.nil, i64 2], [], 0⟩) := by
  refine hc_of_run Try.func10 rfl (fun B hB hpin => ?_)
  refine goK hB s1_ok rfl rfl (by simp [conj]) ?_
  have hc := conf_hc (aNew false 0 0 0 0) w b hi me lo
  rw [show confE w b hi me lo = 2 by simp [confE, h]] at hc
  refine run_callC hc named hB [2, 1] rfl rfl rfl rfl (by simp [conj]) (by simp [conj, less_rfl, aNew]) ?_
  rintro ⟨⟩ _
  refine ⟨show 2 ≤ 2 by omega, _, _, _, rfl, rfl, rfl, ?_⟩
  refine goK hB s1_ok rfl rfl (by simp [conj]) ?_
  refine run_condT rfl rfl ?_
  refine goK hB s1_ok rfl rfl (by simp [conj]) ?_
  exact run_retC hpin () trivial [] rfl rfl (by simp [conj]) rfl (by simp [conj, less_rfl])
def addE (s : ASt) (q c : Int) : Int := if q < 0 ∨ 65535 < q ∨ c < 0 ∨ 3 < c then 2 else if s.h q then 11 else 0
def addS (s : ASt) (q c : Int) : ASt := if q < 0 ∨ 65535 < q ∨ c < 0 ∨ 3 < c then s else if s.h q then s else { s with h := fun a => ieq a q || s.h a, v := fun a => if a = q then c else s.v a }
theorem add_hc (s : ASt) (q c : Int) : HC Try.prog 12 [.ptr 0 0, i64 q, i64 c] (objH s) [] 2 (fun _ : Unit => True) (fun _ => ⟨i64 (addE s q c), objH (addS s q c), 2⟩) := by
  refine hc_of_run Try.func12 rfl (fun B hB hpin => ?_)
  refine goK hB s1_ok rfl rfl (by simp [conj, isPt25, isMp68]) ?_
  refine run_condF rfl rfl ?_
  refine goK hB s1_ok rfl rfl (by simp [conj]) ?_
  refine run_cond rfl (fun h => ?_) (fun h => ?_)
  · have h : q < 0 ∨ 65535 < q ∨ c < 0 ∨ 3 < c := by simpa [or_assoc] using h
    refine goK hB s1_ok rfl rfl (by simp [conj]) ?_
    exact run_retC hpin () trivial [0, 1] rfl rfl (by simp [conj]) rfl (by simp [conj, less_rfl, addE, addS, h])
  have h : ¬ (q < 0 ∨ 65535 < q ∨ c < 0 ∨ 3 < c) := by simp at h; omega
  refine goK hB s1_ok rfl rfl (by simp [conj]) ?_
  refine run_cond rfl (fun hq => ?_) (fun hq => ?_)
  · refine goK hB s1_ok rfl rfl (by simp [conj]) ?_
    exact run_retC hpin () trivial [0, 1] rfl rfl (by simp [conj]) rfl (by simp [conj, less_rfl, addE, addS, h, hq, ieq])
  · refine goK hB s1_ok rfl rfl (by simp [conj]) ?_
    exact run_retC hpin () trivial [0, 1] rfl rfl (by simp [conj]) rfl (by simp [conj, less_rfl, addE, addS, h, hq, ieq])
def remE (s : ASt) (q : Int) : Int := if q < 0 ∨ 65535 < q then 2 else if s.h q then 0 else 9
def remS (s : ASt) (q : Int) : ASt := if q < 0 ∨ 65535 < q then s else if s.h q then { s with h := fun a => s.h a && !ieq a q } else s
theorem rem_hc (s : ASt) (q : Int) : HC Try.prog 21 [.ptr 0 0, i64 q] (objH s) [] 2 (fun _ : Unit => True) (fun _ => ⟨i64 (remE s q), objH (remS s q), 2⟩) := by
  refine hc_of_run Try.func21 rfl (fun B hB hpin => ?_)
  refine goK hB s1_ok rfl rfl (by simp [conj, isPt25, isMp68]) ?_
  refine run_condF rfl rfl ?_
  refine goK hB s1_ok rfl rfl (by simp [conj]) ?_
  refine run_cond rfl (fun h => ?_) (fun h => ?_)
  · have h : q < 0 ∨ 65535 < q := by simpa [or_assoc] using h
    refine goK hB s1_ok rfl rfl (by simp [conj]) ?_
    exact run_retC hpin () trivial [0, 1] rfl rfl (by simp [conj]) rfl (by simp [conj, less_rfl, remE, remS, h])
  have h : ¬ (q < 0 ∨ 65535 < q) := by simp at h; omega
  refine goK hB s1_ok rfl rfl (by simp [conj]) ?_
  refine run_cond rfl (fun hq => ?_) (fun hq => ?_)
  · have hq : s.h q = false := by simpa using hq
    refine goK hB s1_ok rfl rfl (by simp [conj]) ?_
    exact run_retC hpin () trivial [0, 1] rfl rfl (by simp [conj]) rfl (by simp [conj, less_rfl, remE, remS, h, hq])
  have hq : s.h q = true := by simpa using hq
  refine goK hB s1_ok rfl rfl (by simp [conj]) ?_
  refine run_mdel rfl rfl (by simp [conj]) rfl rfl rfl ?_
  refine goK hB s1_ok rfl rfl (by simp [conj]) ?_
  exact run_retC hpin () trivial [0, 1] rfl rfl (by simp [conj]) rfl (by simp [conj, less_rfl, remE, remS, h, hq])
def ASt.cls (s : ASt) (q : Int) : Int := bif s.w then (bif s.h q then s.v q else 0) else 0
theorem cls_hc (s : ASt) (q : Int) : HC Try.prog 34 [.ptr 0 0, i64 q] (objH s) [] 2 (fun _ : Unit => True) (fun _ => ⟨i64 (s.cls q), objH s, 2⟩) := by
  refine hc_of_run Try.func34 rfl (fun B hB hpin => ?_)
  refine goK hB s1_ok rfl rfl (by simp [conj]) ?_
  refine run_cond rfl (fun h => ?_) (fun h => ?_)
  · have h : s.w = false := by simpa using h
    refine goK hB s1_ok rfl rfl (by simp [conj]) ?_
    exact run_retC hpin () trivial [0, 1] rfl rfl (by simp [conj]) rfl (by simp [conj, less_rfl, ASt.cls, h])
  · have h : s.w = true := by simpa using h
    refine goK hB s1_ok rfl rfl (by simp [conj]) ?_
    exact run_retC hpin () trivial [0, 1] rfl rfl (by simp [conj]) rfl (by simp [conj, less_rfl, ASt.cls, h])
end Sx
