/- Package extent: conditions that hold; a namespace that is known. Conditions: as each theorem says. -/
import Derived.Test.YtcfifbpkngplmaaXh
set_option linter.unusedSimpArgs false
set_option linter.unusedVariables false
namespace Sx
open Go Go.Proofs
set_option maxRecDepth 100000
set_option pp.deepTerms true
set_option pp.maxSteps 10000000
abbrev cfQ : List Nat := [36, 60, 63, 75, 76]
def modeQ : Mode := { st := true, unr := true, inl := fun f => !hasN f cfQ, sum := sumOf [], keep := fun _ => none }
theorem goQ {B : Base} (hB : B.ok) {ro : Hp} {f : FuncId} {R : Ending → World → Prop} (S : List (Nat × Nat)) (m : Nat) {cs : List Prop} {c c' : Cfg} (h : execY Try.prog modeQ ro S m [] c = (cs, c')) (hc : conj cs)
    (hr : Run Try.prog ro B f R c') : Run Try.prog ro B f R c := run_goY mixed named hB (sumOk_nil _) S m h hc hr
abbrev cfM : List Nat := [33, 36, 39, 41, 42, 47, 52, 60, 63, 75, 76]
def modeM : Mode := { st := true, unr := false, inl := fun f => !hasN f cfM, sum := sumOf [], keep := fun _ => none }
theorem goM {B : Base} (hB : B.ok) {ro : Hp} {f : FuncId} {R : Ending → World → Prop} {cs0 cs : List Prop} {c c0 c' : Cfg} (h0 : stepD Try.prog modeM ro c = some (cs0, c0)) (h : execG Try.prog modeM ro 400 cs0 c0 = (cs, c')) (hc : conj cs)
    (hr : Run Try.prog ro B f R c') : Run Try.prog ro B f R c := run_go mixed named hB (sumOk_nil _) 400 h0 h hc hr
theorem goMT {B : Base} (hB : B.ok) {ro : Hp} {f : FuncId} {R : Ending → World → Prop} (S : List (Nat × Nat)) (m : Nat) {cs : List Prop} {c c' : Cfg} (h : execY Try.prog modeM ro S m [] c = (cs, c')) (hc : conj cs)
    (hr : Run Try.prog ro B f R c') : Run Try.prog ro B f R c := run_goY mixed named hB (sumOk_nil _) S m h hc hr
abbrev e24 (c : Int) : SV := .int .i64 c
theorem must0_hc (c : Int) : HC Try.prog 33 [e24 c, .nilsl] [] [] 0 (fun _ : Unit => True) (fun _ => ⟨.tup [], [], 0⟩) := by
  refine hc_of_run Try.func33 rfl (fun B hB hpin => ?_)
  refine goQ hB [] 400 rfl (by first | exact conj_nil | simp [conj, isBo4, Fits_i64]) ?_
  exact run_endC hpin () trivial [] rfl rfl (by first | exact conj_nil | simp [conj]) rfl (by first | exact conj_nil | simp [conj])
theorem must1_hc (c : Int) : HC Try.prog 33 [e24 c, .sq 0 0 0 1 1 .no] [] [(0, .cells [.tt] 4)] 1 (fun _ : Unit => True) (fun _ => ⟨.tup [], [], 1⟩) := by
  refine hc_of_run Try.func33 rfl (fun B hB hpin => ?_)
  refine goQ hB [] 400 rfl (by first | exact conj_nil | simp [conj, isBo4, Fits_i64]) ?_
  exact run_endC hpin () trivial [0] rfl rfl (by first | exact conj_nil | simp [conj]) rfl (by first | exact conj_nil | simp [conj, less_rfl])
theorem must2_hc (c : Int) : HC Try.prog 33 [e24 c, .sq 0 0 0 1 2 .no] [] [(0, .cells [.tt, .tt] 4)] 1 (fun _ : Unit => True) (fun _ => ⟨.tup [], [], 1⟩) := by
  refine hc_of_run Try.func33 rfl (fun B hB hpin => ?_)
  refine goQ hB [] 400 rfl (by first | exact conj_nil | simp [conj, isBo4, Fits_i64]) ?_
  exact run_endC hpin () trivial [0] rfl rfl (by first | exact conj_nil | simp [conj]) rfl (by first | exact conj_nil | simp [conj, less_rfl])
theorem must4_hc (c : Int) : HC Try.prog 33 [e24 c, .sq 0 0 0 1 4 .no] [] [(0, .cells [.tt, .tt, .tt, .tt] 4)] 1 (fun _ : Unit => True) (fun _ => ⟨.tup [], [], 1⟩) := by
  refine hc_of_run Try.func33 rfl (fun B hB hpin => ?_)
  refine goQ hB [] 400 rfl (by first | exact conj_nil | simp [conj, isBo4, Fits_i64]) ?_
  exact run_endC hpin () trivial [0] rfl rfl (by first | exact conj_nil | simp [conj]) rfl (by first | exact conj_nil | simp [conj, less_rfl])
structure XSt where
  h : Int → Bool
  sz : Int → Int
  n : Int → Nat
  u : Int → Nat → Int
  F : List Int
  nx : Int
  tot : Int
  un : Int
structure XZ where
  V : Int → Value
  blk : Int → Nat
  vF : Value
abbrev hpX (s : XSt) (z : XZ) : Hp := [(0, xC z.vF s.nx s.tot s.un 1), (1, amap s.h s.sz z.V)]
theorem known0_hc (s : XSt) (z : XZ) (hu : 0 < s.un) (id : Int) (h1 : 1 ≤ id) (h2 : id ≤ 1024) (hh : s.h id = true) :
    HC Try.prog 42 [.ptr 0 0, i64 id, .nilsl] (hpX s z) [] 2 (fun _ : Unit => True) (fun _ => ⟨.agg [i64 (s.sz id), .val (z.V id)], hpX s z, 2⟩) := by
  refine hc_of_run Try.func42 rfl (fun B hB hpin => ?_)
  refine goMT hB [(35, 10)] 400 rfl (by first | exact conj_nil | simp [conj, isPt23]) ?_
  refine run_ff (by simp; omega) ?_
  refine goMT hB [] 400 rfl (by first | exact conj_nil | simp [conj]) ?_
  refine run_callC (must1_hc 1) named hB [3] rfl rfl rfl rfl (by first | exact conj_nil | simp [conj]) (by simp [conj, less_rfl]) ?_
  rintro ⟨⟩ _
  refine ⟨show 1 ≤ 1 by omega, _, _, _, rfl, rfl, rfl, ?_⟩
  refine goM hB rfl rfl (by first | exact conj_nil | simp [conj]) ?_
  refine run_callC (must0_hc 2) named hB [] rfl rfl rfl rfl (by first | exact conj_nil | simp [conj]) (by simp [conj, less_rfl]) ?_
  rintro ⟨⟩ _
  refine ⟨show 0 ≤ 0 by omega, _, _, _, rfl, rfl, rfl, ?_⟩
  refine goM hB rfl rfl (by first | exact conj_nil | simp [conj]) ?_
  refine run_callC (must2_hc 2) named hB [4] rfl rfl rfl rfl (by first | exact conj_nil | simp [conj]) (by simp [conj, less_rfl, h1, h2]) ?_
  rintro ⟨⟩ _
  refine ⟨show 1 ≤ 1 by omega, _, _, _, rfl, rfl, rfl, ?_⟩
  refine goM hB rfl rfl (by first | exact conj_nil | simp [conj]) ?_
  refine run_callC (must1_hc 9) named hB [6] rfl rfl rfl rfl (by first | exact conj_nil | simp [conj]) (by simp [conj, less_rfl, hh]) ?_
  rintro ⟨⟩ _
  refine ⟨show 1 ≤ 1 by omega, _, _, _, rfl, rfl, rfl, ?_⟩
  refine goM hB rfl rfl (by first | exact conj_nil | simp [conj]) ?_
  refine run_retC hpin () trivial [0,1] rfl rfl (by first | exact conj_nil | simp [conj]) rfl ?_
  simp [conj, less_rfl, hh]
theorem known1_hc (s : XSt) (z : XZ) (hu : 0 < s.un) (id : Int) (h1 : 1 ≤ id) (h2 : id ≤ 1024) (hh : s.h id = true) :
    HC Try.prog 42 [.ptr 0 0, i64 id, .sq 2 0 0 1 1 .no] (hpX s z) [(2, .cells [.tt] 4)] 3 (fun _ : Unit => True) (fun _ => ⟨.agg [i64 (s.sz id), .val (z.V id)], hpX s z, 3⟩) := by
  refine hc_of_run Try.func42 rfl (fun B hB hpin => ?_)
  refine goMT hB [(35, 10)] 400 rfl (by first | exact conj_nil | simp [conj, isPt23]) ?_
  refine run_ff (by simp; omega) ?_
  refine goMT hB [] 400 rfl (by first | exact conj_nil | simp [conj]) ?_
  refine run_callC (must1_hc 1) named hB [4] rfl rfl rfl rfl (by first | exact conj_nil | simp [conj]) (by simp [conj, less_rfl]) ?_
  rintro ⟨⟩ _
  refine ⟨show 1 ≤ 1 by omega, _, _, _, rfl, rfl, rfl, ?_⟩
  refine goM hB rfl rfl (by first | exact conj_nil | simp [conj]) ?_
  refine run_callC (must1_hc 2) named hB [2] rfl rfl rfl rfl (by first | exact conj_nil | simp [conj]) (by simp [conj, less_rfl]) ?_
  rintro ⟨⟩ _
  refine ⟨show 1 ≤ 1 by omega, _, _, _, rfl, rfl, rfl, ?_⟩
  refine goM hB rfl rfl (by first | exact conj_nil | simp [conj]) ?_
  refine run_callC (must2_hc 2) named hB [5] rfl rfl rfl rfl (by first | exact conj_nil | simp [conj]) (by simp [conj, less_rfl, h1, h2]) ?_
  rintro ⟨⟩ _
  refine ⟨show 1 ≤ 1 by omega, _, _, _, rfl, rfl, rfl, ?_⟩
  refine goM hB rfl rfl (by first | exact conj_nil | simp [conj]) ?_
  refine run_callC (must1_hc 9) named hB [7] rfl rfl rfl rfl (by first | exact conj_nil | simp [conj]) (by simp [conj, less_rfl, hh]) ?_
  rintro ⟨⟩ _
  refine ⟨show 1 ≤ 1 by omega, _, _, _, rfl, rfl, rfl, ?_⟩
  refine goM hB rfl rfl (by first | exact conj_nil | simp [conj]) ?_
  refine run_retC hpin () trivial [0,1,2] rfl rfl (by first | exact conj_nil | simp [conj]) rfl ?_
  simp [conj, less_rfl, hh]
theorem known2_hc (s : XSt) (z : XZ) (hu : 0 < s.un) (id : Int) (h1 : 1 ≤ id) (h2 : id ≤ 1024) (hh : s.h id = true) :
    HC Try.prog 42 [.ptr 0 0, i64 id, .sq 2 0 0 1 2 .no] (hpX s z) [(2, .cells [.tt, .tt] 4)] 3 (fun _ : Unit => True) (fun _ => ⟨.agg [i64 (s.sz id), .val (z.V id)], hpX s z, 3⟩) := by
  refine hc_of_run Try.func42 rfl (fun B hB hpin => ?_)
  refine goMT hB [(35, 10)] 400 rfl (by first | exact conj_nil | simp [conj, isPt23]) ?_
  refine run_ff (by simp; omega) ?_
  refine goMT hB [] 400 rfl (by first | exact conj_nil | simp [conj]) ?_
  refine run_callC (must1_hc 1) named hB [4] rfl rfl rfl rfl (by first | exact conj_nil | simp [conj]) (by simp [conj, less_rfl]) ?_
  rintro ⟨⟩ _
  refine ⟨show 1 ≤ 1 by omega, _, _, _, rfl, rfl, rfl, ?_⟩
  refine goM hB rfl rfl (by first | exact conj_nil | simp [conj]) ?_
  refine run_callC (must2_hc 2) named hB [2] rfl rfl rfl rfl (by first | exact conj_nil | simp [conj]) (by simp [conj, less_rfl]) ?_
  rintro ⟨⟩ _
  refine ⟨show 1 ≤ 1 by omega, _, _, _, rfl, rfl, rfl, ?_⟩
  refine goM hB rfl rfl (by first | exact conj_nil | simp [conj]) ?_
  refine run_callC (must2_hc 2) named hB [5] rfl rfl rfl rfl (by first | exact conj_nil | simp [conj]) (by simp [conj, less_rfl, h1, h2]) ?_
  rintro ⟨⟩ _
  refine ⟨show 1 ≤ 1 by omega, _, _, _, rfl, rfl, rfl, ?_⟩
  refine goM hB rfl rfl (by first | exact conj_nil | simp [conj]) ?_
  refine run_callC (must1_hc 9) named hB [7] rfl rfl rfl rfl (by first | exact conj_nil | simp [conj]) (by simp [conj, less_rfl, hh]) ?_
  rintro ⟨⟩ _
  refine ⟨show 1 ≤ 1 by omega, _, _, _, rfl, rfl, rfl, ?_⟩
  refine goM hB rfl rfl (by first | exact conj_nil | simp [conj]) ?_
  refine run_retC hpin () trivial [0,1,2] rfl rfl (by first | exact conj_nil | simp [conj]) rfl ?_
  simp [conj, less_rfl, hh]
end Sx
