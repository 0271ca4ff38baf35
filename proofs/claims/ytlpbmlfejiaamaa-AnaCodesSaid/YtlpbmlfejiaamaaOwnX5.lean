/- Texts of this law, joined: what the functions do. Conditions: as each theorem says. -/
import Derived.Test.YtlpbmlfejiaamaaOwnX4
set_option linter.unusedSimpArgs false
set_option linter.unusedVariables false
section
/- Package ana: Change, Remove at any groups. Conditions: as each theorem says. -/
namespace Sx
open Go Go.Proofs
set_option maxRecDepth 100000
set_option pp.deepTerms true
set_option pp.maxSteps 10000000
theorem group_hc (s : GS) (hs : GOk s) (nm : Int) : HC Try.prog 22 [.ptr 0 0, u32 nm] (hpG s) [] 2 (fun _ : Unit => True) (fun _ => ⟨.tup (bif nameOk nm then (bif decide (0 < grp s nm) then [i64 (grp s nm), i64 0] else [i64 0, i64 9]) else [i64 0, i64 2]), hpG s, 2⟩) := by
  cases hq : nameOk nm with
  | false => exact group_name s hs nm hq
  | true =>
    by_cases hb : 0 < grp s nm
    · rw [decide_eq_true hb]; exact group_ok s hs nm hq hb
    · rw [decide_eq_false hb]; exact group_no s hs nm hq hb
abbrev cfV : List Nat := [22]
def modeV : Mode := { st := true, unr := true, inl := fun f => !hasN f cfV, sum := sumOf sW, keep := fun _ => none }
theorem goV {B : Base} (hB : B.ok) {ro : Hp} {f : FuncId} {R : Ending → World → Prop} (S : List (Nat × Nat)) (m : Nat) {cs : List Prop} {c c' : Cfg} (h : execY Try.prog modeV ro S m [] c = (cs, c')) (hc : conj cs)
    (hr : Run Try.prog ro B f R c') : Run Try.prog ro B f R c := run_goY mixed named hB sW_ok S m h hc hr
theorem rG_set (to fr ch : Nat → Int) (j : Nat) (x y : Int) (i k : Nat) (hk : k < 3) : rG (fun i => if i = j then x else to i) (fun i => if i = j then y else fr i) (fun i => if i = j then IntKind.u64.wrap (ch i + 1) else ch i) i k = updF (updF (updF (rG to fr ch) j 0 [i64 x]) j 1 [i64 y]) j 2 [u64 (IntKind.u64.wrap (ch j + 1))] i k := by
  match k, hk with
  | 0, _ => by_cases h : i = j <;> simp [rG, updF, h]
  | 1, _ => by_cases h : i = j <;> simp [rG, updF, h]
  | 2, _ => by_cases h : i = j <;> simp [rG, updF, h]
set_option maxHeartbeats 4000000 in
theorem change_tldl (s : GS) (hs : GOk s) (now g to dur : Int) (hk : to < 1) (hd : dur < 0) : HC Try.prog 13 [.ptr 0 0, i64 now, i64 g, i64 to, i64 dur] (hpG s) [] 2 (fun _ : Unit => True) (fun _ => ⟨i64 2, hpG s, 2⟩) := by
  refine hc_of_run Try.func13 rfl (fun B hB hpin => ?_)
  have hn0 := hs.n0
  have hn1 := hs.n1
  refine goW hB [(13, 15)] 3000 rfl (by simp [conj, Fits_i64, isBo4, isPt23, isIf20] <;> omega) ?_
  refine run_ff (by simp <;> omega) ?_
  refine goW hB [(13, 17)] 3000 rfl (by simp [conj, Fits_i64, isBo4, isPt23, isIf20] <;> omega) ?_
  refine run_tt (by simp <;> omega) ?_
  refine goW hB [(13, 19)] 3000 rfl (by simp [conj, Fits_i64, isBo4, isPt23, isIf20] <;> omega) ?_
  refine run_ff (by simp <;> omega) ?_
  refine goW hB [(13, 21)] 3000 rfl (by simp [conj, Fits_i64, isBo4, isPt23, isIf20] <;> omega) ?_
  refine run_tt (by simp <;> omega) ?_
  refine goW hB [(36, 10)] 3000 rfl (by simp [conj, Fits_i64, isBo4, isPt23, isIf20] <;> omega) ?_
  refine run_ff (by have := hs.n0; simp <;> omega) ?_
  refine goW hB [] 3000 rfl (by simp [conj, Fits_i64, isBo4, isPt23, isIf20] <;> omega) ?_
  refine run_retCX hpin () trivial [0, 1] (.inl rfl) rfl rfl rfl rfl (by first | exact conj_nil | simp [conj]) (by first | exact conj_nil | simp [conj]) rfl ?_
  simp [conj, less_rfl, ren_rG, renR_rG]
set_option maxHeartbeats 4000000 in
theorem change_tldh (s : GS) (hs : GOk s) (now g to dur : Int) (hk : to < 1) (hd : 65536 < dur) : HC Try.prog 13 [.ptr 0 0, i64 now, i64 g, i64 to, i64 dur] (hpG s) [] 2 (fun _ : Unit => True) (fun _ => ⟨i64 2, hpG s, 2⟩) := by
  refine hc_of_run Try.func13 rfl (fun B hB hpin => ?_)
  have hn0 := hs.n0
  have hn1 := hs.n1
  refine goW hB [(13, 15)] 3000 rfl (by simp [conj, Fits_i64, isBo4, isPt23, isIf20] <;> omega) ?_
  refine run_ff (by simp <;> omega) ?_
  refine goW hB [(13, 17)] 3000 rfl (by simp [conj, Fits_i64, isBo4, isPt23, isIf20] <;> omega) ?_
  refine run_tt (by simp <;> omega) ?_
  refine goW hB [(13, 19)] 3000 rfl (by simp [conj, Fits_i64, isBo4, isPt23, isIf20] <;> omega) ?_
  refine run_tt (by simp <;> omega) ?_
  refine goW hB [(13, 21)] 3000 rfl (by simp [conj, Fits_i64, isBo4, isPt23, isIf20] <;> omega) ?_
  refine run_ff (by simp <;> omega) ?_
  refine goW hB [(36, 10)] 3000 rfl (by simp [conj, Fits_i64, isBo4, isPt23, isIf20] <;> omega) ?_
  refine run_ff (by have := hs.n0; simp <;> omega) ?_
  refine goW hB [] 3000 rfl (by simp [conj, Fits_i64, isBo4, isPt23, isIf20] <;> omega) ?_
  refine run_retCX hpin () trivial [0, 1] (.inl rfl) rfl rfl rfl rfl (by first | exact conj_nil | simp [conj]) (by first | exact conj_nil | simp [conj]) rfl ?_
  simp [conj, less_rfl, ren_rG, renR_rG]
set_option maxHeartbeats 4000000 in
theorem change_tldk (s : GS) (hs : GOk s) (now g to dur : Int) (hk : to < 1) (hd : 0 ≤ dur ∧ dur ≤ 65536) : HC Try.prog 13 [.ptr 0 0, i64 now, i64 g, i64 to, i64 dur] (hpG s) [] 2 (fun _ : Unit => True) (fun _ => ⟨i64 2, hpG s, 2⟩) := by
  refine hc_of_run Try.func13 rfl (fun B hB hpin => ?_)
  have hn0 := hs.n0
  have hn1 := hs.n1
  refine goW hB [(13, 15)] 3000 rfl (by simp [conj, Fits_i64, isBo4, isPt23, isIf20] <;> omega) ?_
  refine run_ff (by simp <;> omega) ?_
  refine goW hB [(13, 17)] 3000 rfl (by simp [conj, Fits_i64, isBo4, isPt23, isIf20] <;> omega) ?_
  refine run_tt (by simp <;> omega) ?_
  refine goW hB [(13, 19)] 3000 rfl (by simp [conj, Fits_i64, isBo4, isPt23, isIf20] <;> omega) ?_
  refine run_tt (by simp <;> omega) ?_
  refine goW hB [(13, 21)] 3000 rfl (by simp [conj, Fits_i64, isBo4, isPt23, isIf20] <;> omega) ?_
  refine run_tt (by simp <;> omega) ?_
  refine goW hB [(36, 10)] 3000 rfl (by simp [conj, Fits_i64, isBo4, isPt23, isIf20] <;> omega) ?_
  refine run_ff (by have := hs.n0; simp <;> omega) ?_
  refine goW hB [] 3000 rfl (by simp [conj, Fits_i64, isBo4, isPt23, isIf20] <;> omega) ?_
  refine run_retCX hpin () trivial [0, 1] (.inl rfl) rfl rfl rfl rfl (by first | exact conj_nil | simp [conj]) (by first | exact conj_nil | simp [conj]) rfl ?_
  simp [conj, less_rfl, ren_rG, renR_rG]
set_option maxHeartbeats 4000000 in
theorem change_thdl (s : GS) (hs : GOk s) (now g to dur : Int) (hk : 4 < to) (hd : dur < 0) : HC Try.prog 13 [.ptr 0 0, i64 now, i64 g, i64 to, i64 dur] (hpG s) [] 2 (fun _ : Unit => True) (fun _ => ⟨i64 2, hpG s, 2⟩) := by
  refine hc_of_run Try.func13 rfl (fun B hB hpin => ?_)
  have hn0 := hs.n0
  have hn1 := hs.n1
  refine goW hB [(13, 15)] 3000 rfl (by simp [conj, Fits_i64, isBo4, isPt23, isIf20] <;> omega) ?_
  refine run_tt (by simp <;> omega) ?_
  refine goW hB [(13, 17)] 3000 rfl (by simp [conj, Fits_i64, isBo4, isPt23, isIf20] <;> omega) ?_
  refine run_ff (by simp <;> omega) ?_
  refine goW hB [(13, 19)] 3000 rfl (by simp [conj, Fits_i64, isBo4, isPt23, isIf20] <;> omega) ?_
  refine run_ff (by simp <;> omega) ?_
  refine goW hB [(13, 21)] 3000 rfl (by simp [conj, Fits_i64, isBo4, isPt23, isIf20] <;> omega) ?_
  refine run_tt (by simp <;> omega) ?_
  refine goW hB [(36, 10)] 3000 rfl (by simp [conj, Fits_i64, isBo4, isPt23, isIf20] <;> omega) ?_
  refine run_ff (by have := hs.n0; simp <;> omega) ?_
  refine goW hB [] 3000 rfl (by simp [conj, Fits_i64, isBo4, isPt23, isIf20] <;> omega) ?_
  refine run_retCX hpin () trivial [0, 1] (.inl rfl) rfl rfl rfl rfl (by first | exact conj_nil | simp [conj]) (by first | exact conj_nil | simp [conj]) rfl ?_
  simp [conj, less_rfl, ren_rG, renR_rG]
set_option maxHeartbeats 4000000 in
theorem change_thdh (s : GS) (hs : GOk s) (now g to dur : Int) (hk : 4 < to) (hd : 65536 < dur) : HC Try.prog 13 [.ptr 0 0, i64 now, i64 g, i64 to, i64 dur] (hpG s) [] 2 (fun _ : Unit => True) (fun _ => ⟨i64 2, hpG s, 2⟩) := by
  refine hc_of_run Try.func13 rfl (fun B hB hpin => ?_)
  have hn0 := hs.n0
  have hn1 := hs.n1
  refine goW hB [(13, 15)] 3000 rfl (by simp [conj, Fits_i64, isBo4, isPt23, isIf20] <;> omega) ?_
  refine run_tt (by simp <;> omega) ?_
  refine goW hB [(13, 17)] 3000 rfl (by simp [conj, Fits_i64, isBo4, isPt23, isIf20] <;> omega) ?_
  refine run_ff (by simp <;> omega) ?_
  refine goW hB [(13, 19)] 3000 rfl (by simp [conj, Fits_i64, isBo4, isPt23, isIf20] <;> omega) ?_
  refine run_tt (by simp <;> omega) ?_
  refine goW hB [(13, 21)] 3000 rfl (by simp [conj, Fits_i64, isBo4, isPt23, isIf20] <;> omega) ?_
  refine run_ff (by simp <;> omega) ?_
  refine goW hB [(36, 10)] 3000 rfl (by simp [conj, Fits_i64, isBo4, isPt23, isIf20] <;> omega) ?_
  refine run_ff (by have := hs.n0; simp <;> omega) ?_
  refine goW hB [] 3000 rfl (by simp [conj, Fits_i64, isBo4, isPt23, isIf20] <;> omega) ?_
  refine run_retCX hpin () trivial [0, 1] (.inl rfl) rfl rfl rfl rfl (by first | exact conj_nil | simp [conj]) (by first | exact conj_nil | simp [conj]) rfl ?_
  simp [conj, less_rfl, ren_rG, renR_rG]
set_option maxHeartbeats 4000000 in
theorem change_thdk (s : GS) (hs : GOk s) (now g to dur : Int) (hk : 4 < to) (hd : 0 ≤ dur ∧ dur ≤ 65536) : HC Try.prog 13 [.ptr 0 0, i64 now, i64 g, i64 to, i64 dur] (hpG s) [] 2 (fun _ : Unit => True) (fun _ => ⟨i64 2, hpG s, 2⟩) := by
  refine hc_of_run Try.func13 rfl (fun B hB hpin => ?_)
  have hn0 := hs.n0
  have hn1 := hs.n1
  refine goW hB [(13, 15)] 3000 rfl (by simp [conj, Fits_i64, isBo4, isPt23, isIf20] <;> omega) ?_
  refine run_tt (by simp <;> omega) ?_
  refine goW hB [(13, 17)] 3000 rfl (by simp [conj, Fits_i64, isBo4, isPt23, isIf20] <;> omega) ?_
  refine run_ff (by simp <;> omega) ?_
  refine goW hB [(13, 19)] 3000 rfl (by simp [conj, Fits_i64, isBo4, isPt23, isIf20] <;> omega) ?_
  refine run_tt (by simp <;> omega) ?_
  refine goW hB [(13, 21)] 3000 rfl (by simp [conj, Fits_i64, isBo4, isPt23, isIf20] <;> omega) ?_
  refine run_tt (by simp <;> omega) ?_
  refine goW hB [(36, 10)] 3000 rfl (by simp [conj, Fits_i64, isBo4, isPt23, isIf20] <;> omega) ?_
  refine run_ff (by have := hs.n0; simp <;> omega) ?_
  refine goW hB [] 3000 rfl (by simp [conj, Fits_i64, isBo4, isPt23, isIf20] <;> omega) ?_
  refine run_retCX hpin () trivial [0, 1] (.inl rfl) rfl rfl rfl rfl (by first | exact conj_nil | simp [conj]) (by first | exact conj_nil | simp [conj]) rfl ?_
  simp [conj, less_rfl, ren_rG, renR_rG]
set_option maxHeartbeats 4000000 in
theorem change_tkdl (s : GS) (hs : GOk s) (now g to dur : Int) (hk : 1 ≤ to ∧ to ≤ 4) (hd : dur < 0) : HC Try.prog 13 [.ptr 0 0, i64 now, i64 g, i64 to, i64 dur] (hpG s) [] 2 (fun _ : Unit => True) (fun _ => ⟨i64 2, hpG s, 2⟩) := by
  refine hc_of_run Try.func13 rfl (fun B hB hpin => ?_)
  have hn0 := hs.n0
  have hn1 := hs.n1
  refine goW hB [(13, 15)] 3000 rfl (by simp [conj, Fits_i64, isBo4, isPt23, isIf20] <;> omega) ?_
  refine run_tt (by simp <;> omega) ?_
  refine goW hB [(13, 17)] 3000 rfl (by simp [conj, Fits_i64, isBo4, isPt23, isIf20] <;> omega) ?_
  refine run_tt (by simp <;> omega) ?_
  refine goW hB [(13, 19)] 3000 rfl (by simp [conj, Fits_i64, isBo4, isPt23, isIf20] <;> omega) ?_
  refine run_ff (by simp <;> omega) ?_
  refine goW hB [(13, 21)] 3000 rfl (by simp [conj, Fits_i64, isBo4, isPt23, isIf20] <;> omega) ?_
  refine run_tt (by simp <;> omega) ?_
  refine goW hB [(36, 10)] 3000 rfl (by simp [conj, Fits_i64, isBo4, isPt23, isIf20] <;> omega) ?_
  refine run_ff (by have := hs.n0; simp <;> omega) ?_
  refine goW hB [] 3000 rfl (by simp [conj, Fits_i64, isBo4, isPt23, isIf20] <;> omega) ?_
  refine run_retCX hpin () trivial [0, 1] (.inl rfl) rfl rfl rfl rfl (by first | exact conj_nil | simp [conj]) (by first | exact conj_nil | simp [conj]) rfl ?_
  simp [conj, less_rfl, ren_rG, renR_rG]
set_option maxHeartbeats 4000000 in
theorem change_tkdh (s : GS) (hs : GOk s) (now g to dur : Int) (hk : 1 ≤ to ∧ to ≤ 4) (hd : 65536 < dur) : HC Try.prog 13 [.ptr 0 0, i64 now, i64 g, i64 to, i64 dur] (hpG s) [] 2 (fun _ : Unit => True) (fun _ => ⟨i64 2, hpG s, 2⟩) := by
  refine hc_of_run Try.func13 rfl (fun B hB hpin => ?_)
  have hn0 := hs.n0
  have hn1 := hs.n1
  refine goW hB [(13, 15)] 3000 rfl (by simp [conj, Fits_i64, isBo4, isPt23, isIf20] <;> omega) ?_
  refine run_tt (by simp <;> omega) ?_
  refine goW hB [(13, 17)] 3000 rfl (by simp [conj, Fits_i64, isBo4, isPt23, isIf20] <;> omega) ?_
  refine run_tt (by simp <;> omega) ?_
  refine goW hB [(13, 19)] 3000 rfl (by simp [conj, Fits_i64, isBo4, isPt23, isIf20] <;> omega) ?_
  refine run_tt (by simp <;> omega) ?_
  refine goW hB [(13, 21)] 3000 rfl (by simp [conj, Fits_i64, isBo4, isPt23, isIf20] <;> omega) ?_
  refine run_ff (by simp <;> omega) ?_
  refine goW hB [(36, 10)] 3000 rfl (by simp [conj, Fits_i64, isBo4, isPt23, isIf20] <;> omega) ?_
  refine run_ff (by have := hs.n0; simp <;> omega) ?_
  refine goW hB [] 3000 rfl (by simp [conj, Fits_i64, isBo4, isPt23, isIf20] <;> omega) ?_
  refine run_retCX hpin () trivial [0, 1] (.inl rfl) rfl rfl rfl rfl (by first | exact conj_nil | simp [conj]) (by first | exact conj_nil | simp [conj]) rfl ?_
  simp [conj, less_rfl, ren_rG, renR_rG]
set_option maxHeartbeats 4000000 in
theorem change_lo (s : GS) (hs : GOk s) (now g to dur : Int) (hk : 1 ≤ to ∧ to ≤ 4) (hd : 0 ≤ dur ∧ dur ≤ 65536) (ht : now < 0) : HC Try.prog 13 [.ptr 0 0, i64 now, i64 g, i64 to, i64 dur] (hpG s) [] 2 (fun _ : Unit => True) (fun _ => ⟨i64 2, hpG s, 2⟩) := by
  refine hc_of_run Try.func13 rfl (fun B hB hpin => ?_)
  have hn0 := hs.n0
  have hn1 := hs.n1
  refine goW hB [(13, 15)] 3000 rfl (by simp [conj, Fits_i64, isBo4, isPt23, isIf20] <;> omega) ?_
  refine run_tt (by simp <;> omega) ?_
  refine goW hB [(13, 17)] 3000 rfl (by simp [conj, Fits_i64, isBo4, isPt23, isIf20] <;> omega) ?_
  refine run_tt (by simp <;> omega) ?_
  refine goW hB [(13, 19)] 3000 rfl (by simp [conj, Fits_i64, isBo4, isPt23, isIf20] <;> omega) ?_
  refine run_tt (by simp <;> omega) ?_
  refine goW hB [(13, 21)] 3000 rfl (by simp [conj, Fits_i64, isBo4, isPt23, isIf20] <;> omega) ?_
  refine run_tt (by simp <;> omega) ?_
  refine goW hB [(36, 10)] 3000 rfl (by simp [conj, Fits_i64, isBo4, isPt23, isIf20] <;> omega) ?_
  refine run_ff (by have := hs.n0; simp <;> omega) ?_
  refine goW hB [(40, 14)] 3000 rfl (by simp [conj, Fits_i64, isBo4, isPt23, isIf20] <;> omega) ?_
  refine run_ff (by simp <;> omega) ?_
  refine goW hB [(40, 16)] 3000 rfl (by simp [conj, Fits_i64, isBo4, isPt23, isIf20] <;> omega) ?_
  refine run_tt (by simp <;> omega) ?_
  refine goW hB [] 3000 rfl (by simp [conj, Fits_i64, isBo4, isPt23, isIf20] <;> omega) ?_
  refine run_retCX hpin () trivial [0, 1] (.inl rfl) rfl rfl rfl rfl (by first | exact conj_nil | simp [conj]) (by first | exact conj_nil | simp [conj]) rfl ?_
  simp [conj, less_rfl, ren_rG, renR_rG]
set_option maxHeartbeats 4000000 in
theorem change_hi (s : GS) (hs : GOk s) (now g to dur : Int) (hk : 1 ≤ to ∧ to ≤ 4) (hd : 0 ≤ dur ∧ dur ≤ 65536) (ht : 1099511627776 < now) : HC Try.prog 13 [.ptr 0 0, i64 now, i64 g, i64 to, i64 dur] (hpG s) [] 2 (fun _ : Unit => True) (fun _ => ⟨i64 2, hpG s, 2⟩) := by
  refine hc_of_run Try.func13 rfl (fun B hB hpin => ?_)
  have hn0 := hs.n0
  have hn1 := hs.n1
  refine goW hB [(13, 15)] 3000 rfl (by simp [conj, Fits_i64, isBo4, isPt23, isIf20] <;> omega) ?_
  refine run_tt (by simp <;> omega) ?_
  refine goW hB [(13, 17)] 3000 rfl (by simp [conj, Fits_i64, isBo4, isPt23, isIf20] <;> omega) ?_
  refine run_tt (by simp <;> omega) ?_
  refine goW hB [(13, 19)] 3000 rfl (by simp [conj, Fits_i64, isBo4, isPt23, isIf20] <;> omega) ?_
  refine run_tt (by simp <;> omega) ?_
  refine goW hB [(13, 21)] 3000 rfl (by simp [conj, Fits_i64, isBo4, isPt23, isIf20] <;> omega) ?_
  refine run_tt (by simp <;> omega) ?_
  refine goW hB [(36, 10)] 3000 rfl (by simp [conj, Fits_i64, isBo4, isPt23, isIf20] <;> omega) ?_
  refine run_ff (by have := hs.n0; simp <;> omega) ?_
  refine goW hB [(40, 14)] 3000 rfl (by simp [conj, Fits_i64, isBo4, isPt23, isIf20] <;> omega) ?_
  refine run_tt (by simp <;> omega) ?_
  refine goW hB [(40, 16)] 3000 rfl (by simp [conj, Fits_i64, isBo4, isPt23, isIf20] <;> omega) ?_
  refine run_ff (by simp <;> omega) ?_
  refine goW hB [] 3000 rfl (by simp [conj, Fits_i64, isBo4, isPt23, isIf20] <;> omega) ?_
  refine run_retCX hpin () trivial [0, 1] (.inl rfl) rfl rfl rfl rfl (by first | exact conj_nil | simp [conj]) (by first | exact conj_nil | simp [conj]) rfl ?_
  simp [conj, less_rfl, ren_rG, renR_rG]
set_option maxHeartbeats 4000000 in
theorem change_glo (s : GS) (hs : GOk s) (now g to dur : Int) (hk : 1 ≤ to ∧ to ≤ 4) (hd : 0 ≤ dur ∧ dur ≤ 65536) (ht : 0 ≤ now ∧ now ≤ 1099511627776) (hg : g < 1) : HC Try.prog 13 [.ptr 0 0, i64 now, i64 g, i64 to, i64 dur] (hpG s) [] 2 (fun _ : Unit => True) (fun _ => ⟨i64 3, hpG (gAt s now), 2⟩) := by
  refine hc_of_run Try.func13 rfl (fun B hB hpin => ?_)
  have hn0 := hs.n0
  have hn1 := hs.n1
  refine goW hB [(13, 15)] 3000 rfl (by simp [conj, Fits_i64, isBo4, isPt23, isIf20] <;> omega) ?_
  refine run_tt (by simp <;> omega) ?_
  refine goW hB [(13, 17)] 3000 rfl (by simp [conj, Fits_i64, isBo4, isPt23, isIf20] <;> omega) ?_
  refine run_tt (by simp <;> omega) ?_
  refine goW hB [(13, 19)] 3000 rfl (by simp [conj, Fits_i64, isBo4, isPt23, isIf20] <;> omega) ?_
  refine run_tt (by simp <;> omega) ?_
  refine goW hB [(13, 21)] 3000 rfl (by simp [conj, Fits_i64, isBo4, isPt23, isIf20] <;> omega) ?_
  refine run_tt (by simp <;> omega) ?_
  refine goW hB [(36, 10)] 3000 rfl (by simp [conj, Fits_i64, isBo4, isPt23, isIf20] <;> omega) ?_
  refine run_ff (by have := hs.n0; simp <;> omega) ?_
  refine goW hB [(40, 14)] 3000 rfl (by simp [conj, Fits_i64, isBo4, isPt23, isIf20] <;> omega) ?_
  refine run_tt (by simp <;> omega) ?_
  refine goW hB [(40, 16)] 3000 rfl (by simp [conj, Fits_i64, isBo4, isPt23, isIf20] <;> omega) ?_
  refine run_tt (by simp <;> omega) ?_
  refine goW hB [(38, 5)] 3000 rfl (by simp [conj, Fits_i64, isBo4, isPt23, isIf20] <;> omega) ?_
  refine run_ff (by simp <;> omega) ?_
  refine goW hB [(38, 11)] 3000 rfl (by simp [conj, Fits_i64, isBo4, isPt23, isIf20] <;> omega) ?_
  refine run_tt (by simp <;> omega) ?_
  refine goW hB [] 3000 rfl (by simp [conj, Fits_i64, isBo4, isPt23, isIf20] <;> omega) ?_
  refine run_retCX hpin () trivial [0, 1] (.inl rfl) rfl rfl rfl rfl (by first | exact conj_nil | simp [conj]) (by first | exact conj_nil | simp [conj]) rfl ?_
  simp [conj, less_rfl, ren_rG, renR_rG]
set_option maxHeartbeats 4000000 in
theorem change_ghi (s : GS) (hs : GOk s) (now g to dur : Int) (hk : 1 ≤ to ∧ to ≤ 4) (hd : 0 ≤ dur ∧ dur ≤ 65536) (ht : 0 ≤ now ∧ now ≤ 1099511627776) (hg : s.n < g) : HC Try.prog 13 [.ptr 0 0, i64 now, i64 g, i64 to, i64 dur] (hpG s) [] 2 (fun _ : Unit => True) (fun _ => ⟨i64 3, hpG (gAt s now), 2⟩) := by
  refine hc_of_run Try.func13 rfl (fun B hB hpin => ?_)
  have hn0 := hs.n0
  have hn1 := hs.n1
  refine goW hB [(13, 15)] 3000 rfl (by simp [conj, Fits_i64, isBo4, isPt23, isIf20] <;> omega) ?_
  refine run_tt (by simp <;> omega) ?_
  refine goW hB [(13, 17)] 3000 rfl (by simp [conj, Fits_i64, isBo4, isPt23, isIf20] <;> omega) ?_
  refine run_tt (by simp <;> omega) ?_
  refine goW hB [(13, 19)] 3000 rfl (by simp [conj, Fits_i64, isBo4, isPt23, isIf20] <;> omega) ?_
  refine run_tt (by simp <;> omega) ?_
  refine goW hB [(13, 21)] 3000 rfl (by simp [conj, Fits_i64, isBo4, isPt23, isIf20] <;> omega) ?_
  refine run_tt (by simp <;> omega) ?_
  refine goW hB [(36, 10)] 3000 rfl (by simp [conj, Fits_i64, isBo4, isPt23, isIf20] <;> omega) ?_
  refine run_ff (by have := hs.n0; simp <;> omega) ?_
  refine goW hB [(40, 14)] 3000 rfl (by simp [conj, Fits_i64, isBo4, isPt23, isIf20] <;> omega) ?_
  refine run_tt (by simp <;> omega) ?_
  refine goW hB [(40, 16)] 3000 rfl (by simp [conj, Fits_i64, isBo4, isPt23, isIf20] <;> omega) ?_
  refine run_tt (by simp <;> omega) ?_
  refine goW hB [(38, 5)] 3000 rfl (by simp [conj, Fits_i64, isBo4, isPt23, isIf20] <;> omega) ?_
  refine run_tt (by simp <;> omega) ?_
  refine goW hB [(38, 11)] 3000 rfl (by simp [conj, Fits_i64, isBo4, isPt23, isIf20] <;> omega) ?_
  refine run_ff (by simp <;> omega) ?_
  refine goW hB [] 3000 rfl (by simp [conj, Fits_i64, isBo4, isPt23, isIf20] <;> omega) ?_
  refine run_retCX hpin () trivial [0, 1] (.inl rfl) rfl rfl rfl rfl (by first | exact conj_nil | simp [conj]) (by first | exact conj_nil | simp [conj]) rfl ?_
  simp [conj, less_rfl, ren_rG, renR_rG]
set_option maxHeartbeats 4000000 in
theorem change_in (s : GS) (hs : GOk s) (now g to dur : Int) (hk : 1 ≤ to ∧ to ≤ 4) (hd : 0 ≤ dur ∧ dur ≤ 65536) (ht : 0 ≤ now ∧ now ≤ 1099511627776) (hg : 1 ≤ g ∧ g ≤ s.n) (hq : max s.now now < s.fr (g - 1).toNat) : HC Try.prog 13 [.ptr 0 0, i64 now, i64 g, i64 to, i64 dur] (hpG s) [] 2 (fun _ : Unit => True) (fun _ => ⟨i64 0, hpG (gSet (gAt s now) g to dur), 2⟩) := by
  refine hc_of_run Try.func13 rfl (fun B hB hpin => ?_)
  have hn0 := hs.n0
  have hn1 := hs.n1
  have hf := hs.f0 (g - 1).toNat
  have hc := hs.c0 (g - 1).toNat
  have hnow := hs.t1
  have hnow0 := hs.t0
  refine goW hB [(13, 15)] 3000 rfl (by simp [conj, Fits_i64, isBo4, isPt23, isIf20] <;> omega) ?_
  refine run_tt (by simp <;> omega) ?_
  refine goW hB [(13, 17)] 3000 rfl (by simp [conj, Fits_i64, isBo4, isPt23, isIf20] <;> omega) ?_
  refine run_tt (by simp <;> omega) ?_
  refine goW hB [(13, 19)] 3000 rfl (by simp [conj, Fits_i64, isBo4, isPt23, isIf20] <;> omega) ?_
  refine run_tt (by simp <;> omega) ?_
  refine goW hB [(13, 21)] 3000 rfl (by simp [conj, Fits_i64, isBo4, isPt23, isIf20] <;> omega) ?_
  refine run_tt (by simp <;> omega) ?_
  refine goW hB [(36, 10)] 3000 rfl (by simp [conj, Fits_i64, isBo4, isPt23, isIf20] <;> omega) ?_
  refine run_ff (by have := hs.n0; simp <;> omega) ?_
  refine goW hB [(40, 14)] 3000 rfl (by simp [conj, Fits_i64, isBo4, isPt23, isIf20] <;> omega) ?_
  refine run_tt (by simp <;> omega) ?_
  refine goW hB [(40, 16)] 3000 rfl (by simp [conj, Fits_i64, isBo4, isPt23, isIf20] <;> omega) ?_
  refine run_tt (by simp <;> omega) ?_
  refine goW hB [(38, 5)] 3000 rfl (by simp [conj, Fits_i64, isBo4, isPt23, isIf20] <;> omega) ?_
  refine run_tt (by simp <;> omega) ?_
  refine goW hB [(38, 11)] 3000 rfl (by simp [conj, Fits_i64, isBo4, isPt23, isIf20] <;> omega) ?_
  refine run_tt (by simp <;> omega) ?_
  refine goW hB [(41, 20)] 3000 rfl (by simp [conj, Fits_i64, isBo4, isPt23, isIf20] <;> omega) ?_
  refine run_tt (by simpa using hq) ?_
  refine goW hB [] 3000 rfl (by simp [conj, Fits_i64, isBo4, isPt23, isIf20] <;> omega) ?_
  refine run_retCX hpin () trivial [0, 1] (.inl rfl) rfl rfl rfl rfl (by first | exact conj_nil | simp [conj]) (by first | exact conj_nil | simp [conj]) rfl ?_
  simp [conj, less_rfl, ren_rG, renR_rG]
  intro i k _ hk3
  rw [rG_set _ _ _ _ _ _ _ _ hk3]; exact (less_rfl _).mpr trivial
set_option maxHeartbeats 4000000 in
theorem change_lost (s : GS) (hs : GOk s) (now g to dur : Int) (hk : 1 ≤ to ∧ to ≤ 4) (hd : 0 ≤ dur ∧ dur ≤ 65536) (ht : 0 ≤ now ∧ now ≤ 1099511627776) (hg : 1 ≤ g ∧ g ≤ s.n) (hq : ¬ max s.now now < s.fr (g - 1).toNat) (hl : s.to (g - 1).toNat = 4) : HC Try.prog 13 [.ptr 0 0, i64 now, i64 g, i64 to, i64 dur] (hpG s) [] 2 (fun _ : Unit => True) (fun _ => ⟨i64 8, hpG (gAt s now), 2⟩) := by
  refine hc_of_run Try.func13 rfl (fun B hB hpin => ?_)
  have hn0 := hs.n0
  have hn1 := hs.n1
  have hf := hs.f0 (g - 1).toNat
  have hc := hs.c0 (g - 1).toNat
  have hnow := hs.t1
  have hnow0 := hs.t0
  refine goW hB [(13, 15)] 3000 rfl (by simp [conj, Fits_i64, isBo4, isPt23, isIf20] <;> omega) ?_
  refine run_tt (by simp <;> omega) ?_
  refine goW hB [(13, 17)] 3000 rfl (by simp [conj, Fits_i64, isBo4, isPt23, isIf20] <;> omega) ?_
  refine run_tt (by simp <;> omega) ?_
  refine goW hB [(13, 19)] 3000 rfl (by simp [conj, Fits_i64, isBo4, isPt23, isIf20] <;> omega) ?_
  refine run_tt (by simp <;> omega) ?_
  refine goW hB [(13, 21)] 3000 rfl (by simp [conj, Fits_i64, isBo4, isPt23, isIf20] <;> omega) ?_
  refine run_tt (by simp <;> omega) ?_
  refine goW hB [(36, 10)] 3000 rfl (by simp [conj, Fits_i64, isBo4, isPt23, isIf20] <;> omega) ?_
  refine run_ff (by have := hs.n0; simp <;> omega) ?_
  refine goW hB [(40, 14)] 3000 rfl (by simp [conj, Fits_i64, isBo4, isPt23, isIf20] <;> omega) ?_
  refine run_tt (by simp <;> omega) ?_
  refine goW hB [(40, 16)] 3000 rfl (by simp [conj, Fits_i64, isBo4, isPt23, isIf20] <;> omega) ?_
  refine run_tt (by simp <;> omega) ?_
  refine goW hB [(38, 5)] 3000 rfl (by simp [conj, Fits_i64, isBo4, isPt23, isIf20] <;> omega) ?_
  refine run_tt (by simp <;> omega) ?_
  refine goW hB [(38, 11)] 3000 rfl (by simp [conj, Fits_i64, isBo4, isPt23, isIf20] <;> omega) ?_
  refine run_tt (by simp <;> omega) ?_
  refine goW hB [(41, 20)] 3000 rfl (by simp [conj, Fits_i64, isBo4, isPt23, isIf20] <;> omega) ?_
  refine run_ff (by simpa using hq) ?_
  refine goW hB [(13, 30)] 3000 rfl (by simp [conj, Fits_i64, isBo4, isPt23, isIf20] <;> omega) ?_
  refine run_ff (by simpa using hl) ?_
  refine goW hB [] 3000 rfl (by simp [conj, Fits_i64, isBo4, isPt23, isIf20] <;> omega) ?_
  refine run_retCX hpin () trivial [0, 1] (.inl rfl) rfl rfl rfl rfl (by first | exact conj_nil | simp [conj]) (by first | exact conj_nil | simp [conj]) rfl ?_
  simp [conj, less_rfl, ren_rG, renR_rG]
set_option maxHeartbeats 4000000 in
theorem change_ok (s : GS) (hs : GOk s) (now g to dur : Int) (hk : 1 ≤ to ∧ to ≤ 4) (hd : 0 ≤ dur ∧ dur ≤ 65536) (ht : 0 ≤ now ∧ now ≤ 1099511627776) (hg : 1 ≤ g ∧ g ≤ s.n) (hq : ¬ max s.now now < s.fr (g - 1).toNat) (hl : ¬ s.to (g - 1).toNat = 4) : HC Try.prog 13 [.ptr 0 0, i64 now, i64 g, i64 to, i64 dur] (hpG s) [] 2 (fun _ : Unit => True) (fun _ => ⟨i64 0, hpG (gSet (gAt s now) g to dur), 2⟩) := by
  refine hc_of_run Try.func13 rfl (fun B hB hpin => ?_)
  have hn0 := hs.n0
  have hn1 := hs.n1
  have hf := hs.f0 (g - 1).toNat
  have hc := hs.c0 (g - 1).toNat
  have hnow := hs.t1
  have hnow0 := hs.t0
  refine goW hB [(13, 15)] 3000 rfl (by simp [conj, Fits_i64, isBo4, isPt23, isIf20] <;> omega) ?_
  refine run_tt (by simp <;> omega) ?_
  refine goW hB [(13, 17)] 3000 rfl (by simp [conj, Fits_i64, isBo4, isPt23, isIf20] <;> omega) ?_
  refine run_tt (by simp <;> omega) ?_
  refine goW hB [(13, 19)] 3000 rfl (by simp [conj, Fits_i64, isBo4, isPt23, isIf20] <;> omega) ?_
  refine run_tt (by simp <;> omega) ?_
  refine goW hB [(13, 21)] 3000 rfl (by simp [conj, Fits_i64, isBo4, isPt23, isIf20] <;> omega) ?_
  refine run_tt (by simp <;> omega) ?_
  refine goW hB [(36, 10)] 3000 rfl (by simp [conj, Fits_i64, isBo4, isPt23, isIf20] <;> omega) ?_
  refine run_ff (by have := hs.n0; simp <;> omega) ?_
  refine goW hB [(40, 14)] 3000 rfl (by simp [conj, Fits_i64, isBo4, isPt23, isIf20] <;> omega) ?_
  refine run_tt (by simp <;> omega) ?_
  refine goW hB [(40, 16)] 3000 rfl (by simp [conj, Fits_i64, isBo4, isPt23, isIf20] <;> omega) ?_
  refine run_tt (by simp <;> omega) ?_
  refine goW hB [(38, 5)] 3000 rfl (by simp [conj, Fits_i64, isBo4, isPt23, isIf20] <;> omega) ?_
  refine run_tt (by simp <;> omega) ?_
  refine goW hB [(38, 11)] 3000 rfl (by simp [conj, Fits_i64, isBo4, isPt23, isIf20] <;> omega) ?_
  refine run_tt (by simp <;> omega) ?_
  refine goW hB [(41, 20)] 3000 rfl (by simp [conj, Fits_i64, isBo4, isPt23, isIf20] <;> omega) ?_
  refine run_ff (by simpa using hq) ?_
  refine goW hB [(13, 30)] 3000 rfl (by simp [conj, Fits_i64, isBo4, isPt23, isIf20] <;> omega) ?_
  refine run_tt (by simpa using hl) ?_
  refine goW hB [] 3000 rfl (by simp [conj, Fits_i64, isBo4, isPt23, isIf20] <;> omega) ?_
  refine run_retCX hpin () trivial [0, 1] (.inl rfl) rfl rfl rfl rfl (by first | exact conj_nil | simp [conj]) (by first | exact conj_nil | simp [conj]) rfl ?_
  simp [conj, less_rfl, ren_rG, renR_rG]
  intro i k _ hk3
  rw [rG_set _ _ _ _ _ _ _ _ hk3]; exact (less_rfl _).mpr trivial
set_option maxHeartbeats 4000000 in
theorem remove_ok (s : GS) (hs : GOk s) (nm : Int) (hq : nameOk nm = true) (hb : 0 < grp s nm) : HC Try.prog 24 [.ptr 0 0, u32 nm] (hpG s) [] 2 (fun _ : Unit => True) (fun _ => ⟨i64 0, hpG (gDel s nm), 2⟩) := by
  refine hc_of_run Try.func24 rfl (fun B hB hpin => ?_)
  have hn0 := hs.n0
  have hn1 := hs.n1
  refine goV hB [] 3000 rfl (by simp [conj]) ?_
  refine run_callC (group_ok s hs nm hq hb) named hB [0, 1] rfl rfl rfl rfl (by simp [conj]) (by simp [conj, less_rfl, ren_rG, renR_rG]) ?_
  rintro ⟨⟩ _
  refine ⟨show 2 ≤ 2 by omega, _, _, _, rfl, rfl, rfl, ?_⟩
  refine goV hB [] 3000 rfl (by simp [conj]) ?_
  refine run_mdel rfl rfl (by simp [conj]) rfl rfl rfl ?_
  refine goV hB [] 3000 rfl (by simp [conj]) ?_
  refine run_retC hpin () trivial [0, 1] rfl rfl (by simp [conj]) rfl ?_
  simp [conj, less_rfl, ren_rG, renR_rG]
set_option maxHeartbeats 4000000 in
theorem remove_no (s : GS) (hs : GOk s) (nm : Int) (hq : nameOk nm = true) (hb : ¬ 0 < grp s nm) : HC Try.prog 24 [.ptr 0 0, u32 nm] (hpG s) [] 2 (fun _ : Unit => True) (fun _ => ⟨i64 9, hpG s, 2⟩) := by
  refine hc_of_run Try.func24 rfl (fun B hB hpin => ?_)
  have hn0 := hs.n0
  have hn1 := hs.n1
  refine goV hB [] 3000 rfl (by simp [conj]) ?_
  refine run_callC (group_no s hs nm hq hb) named hB [0, 1] rfl rfl rfl rfl (by simp [conj]) (by simp [conj, less_rfl, ren_rG, renR_rG]) ?_
  rintro ⟨⟩ _
  refine ⟨show 2 ≤ 2 by omega, _, _, _, rfl, rfl, rfl, ?_⟩
  refine goV hB [] 3000 rfl (by simp [conj]) ?_
  refine run_retC hpin () trivial [0, 1] rfl rfl (by simp [conj]) rfl ?_
  simp [conj, less_rfl, ren_rG, renR_rG]
set_option maxHeartbeats 4000000 in
theorem remove_name (s : GS) (hs : GOk s) (nm : Int) (hq : nameOk nm = false) : HC Try.prog 24 [.ptr 0 0, u32 nm] (hpG s) [] 2 (fun _ : Unit => True) (fun _ => ⟨i64 2, hpG s, 2⟩) := by
  refine hc_of_run Try.func24 rfl (fun B hB hpin => ?_)
  have hn0 := hs.n0
  have hn1 := hs.n1
  refine goV hB [] 3000 rfl (by simp [conj]) ?_
  refine run_callC (group_name s hs nm hq) named hB [0, 1] rfl rfl rfl rfl (by simp [conj]) (by simp [conj, less_rfl, ren_rG, renR_rG]) ?_
  rintro ⟨⟩ _
  refine ⟨show 2 ≤ 2 by omega, _, _, _, rfl, rfl, rfl, ?_⟩
  refine goV hB [] 3000 rfl (by simp [conj]) ?_
  refine run_retC hpin () trivial [0, 1] rfl rfl (by simp [conj]) rfl ?_
  simp [conj, less_rfl, ren_rG, renR_rG]
end Sx
end
section
/- Package ana: the members of a group, by increasing identifier. Conditions: as each theorem says. -/
namespace Sx
open Go Go.Proofs
set_option maxRecDepth 100000
set_option pp.deepTerms true
set_option pp.maxSteps 10000000
theorem fl_take (p : Int → Bool) (l : List Int) (i : Nat) (hi : i < l.length) : (l.take (i + 1)).filter p = if p (lsD l i) = true then (l.take i).filter p ++ [lsD l i] else (l.take i).filter p := by
  have e : l.take (i + 1) = l.take i ++ [lsD l i] := by
    rw [List.take_succ_eq_append_getElem hi]
    simp [lsD, hi]
  rw [e, List.filter_append]
  by_cases h : p (lsD l i) = true <;> simp [List.filter_cons, h]
theorem len_filter (p : Int → Bool) (l : List Int) (i : Nat) : ((l.take i).filter p).length ≤ l.length := Nat.le_trans (List.length_filter_le _ _) (by rw [List.length_take]; omega)
theorem lsD_mem (l : List Int) (i : Nat) (hi : i < l.length) : lsD l i ∈ l := by
  have e1 : lsD l i = l[i] := by simp [lsD, hi]
  rw [e1]; exact List.getElem_mem hi
/-- The members of a group. -/
def memP (s : GS) (g x : Int) : Bool := decide (grp s x = g)
def mem (s : GS) (g : Int) (l : List Int) : List Int := l.filter (memP s g)
theorem list_hc (s : GS) (l : List Int) (hk : KeysOf s.h l) (hl : l.length < 129) (g : Int) :
    HC Try.prog 50 [.ptr 0 0, i64 g] [(1, mmap s)] [(0, gobj s 1)] 2 (fun _ : Unit => True) (fun _ => ⟨.sq 2 0 0 1 (mem s g l).length .own, [(1, mmap s), (2, .row 0 (mem s g l).length (mem s g l).length 1 (rowL .u32 (mem s g l)) 29)], 3⟩) := by
  refine hc_of_run Try.func50 rfl (fun B hB hpin => ?_)
  refine goK hB rfl rfl (by simp [conj]) ?_
  refine run_callC (sortedN_hc s.h s.v l hk hl) named hB [4, 1] rfl rfl rfl rfl (by simp [conj]) (by simp [conj, less_rfl]) ?_
  rintro ⟨⟩ _
  refine ⟨show 2 ≤ 3 by omega, _, _, _, rfl, rfl, rfl, ?_⟩
  refine goK hB rfl rfl (by simp [conj]) ?_
  refine run_loop ?_
  have hfl : mem s g l = (l.take l.length).filter (memP s g) := by rw [List.take_length]; rfl
  rw [hfl]
  generalize hp : memP s g = p
  refine run_invK (ι := Nat) hpin (fun i => i ≤ l.length) (fun i => l.length - i) (fun i => [(9, i64 i), (8, i64 l.length), (7, .sq 5 0 0 1 l.length .own), (4, .sq 6 0 0 1 ((l.take i).filter p).length .own), (1, .clo (.func 77) [] [.ptr 2 0, .ptr 3 0])]) (fun _ => [[]]) [] (fun i => [(1, mmap s), (5, .row 0 l.length l.length 1 (rowL .u32 l) 29), (6, .row 0 ((l.take i).filter p).length ((l.take i).filter p).length 1 (rowL .u32 ((l.take i).filter p)) 29), (3, .cells [i64 g] 3), (2, .cells [.ptr 0 0] 23)]) 7 0 (Nat.zero_le _)
    [0, 1, 2, 3, 4, 5, 6] rfl rfl (by
      simp [conj, less_rfl, ren_rowL, renR_rowL, ren_rG]) ?_
  intro i hi ih
  refine goK hB rfl rfl (by simp [conj]) ?_
  refine run_cond rfl (fun hh => ?_) (fun hh => ?_)
  · have hi1 : i < l.length := by simpa using hh
    have ih := ih (i + 1) (by omega) (by omega)
    have e1 := fl_take p l i hi1
    have hm : s.h (lsD l i) = true := (hk.2 _).1 (lsD_mem l i hi1)
    have hlen := len_filter p l i
    have e0 : 0 + ((i : Nat) : Int).toNat = i := by omega
    generalize (l.take i).filter p = L at e1 hlen ⊢
    refine goK hB rfl rfl (by simp [conj, isPt23, isBo4] <;> omega) ?_
    rw [e0]
    have hpx : p (lsD l i) = decide ((bif s.h (l.getD i 0) then s.v (l.getD i 0) else 0) = g) := by rw [← hp]; rfl
    refine run_cond rfl (fun hq => ?_) (fun hq => ?_)
    · have hq' : p (lsD l i) = true := hpx.trans hq
      rw [if_pos hq'] at e1
      rw [e1] at ih
      refine goK hB rfl rfl (by simp [conj, Fits_i64] <;> omega) ?_
      refine run_back ?_
      refine run_to hpin [0, 1, 2, 3, 4, 5, 17] rfl rfl ?_ ih
      clear ih
      simp [conj, less_rfl, ren_rowL, ren_rG]
      clear hfl
      exact fun j hj => Less.of (app_rowL L _ j hj)
    · have hq' : ¬ p (lsD l i) = true := by
        rw [hpx]
        intro h'
        rw [show decide ((bif s.h (l.getD i 0) then s.v (l.getD i 0) else 0) = g) = false from hq] at h'
        cases h'
      rw [if_neg hq'] at e1
      rw [e1] at ih
      refine goK hB rfl rfl (by simp [conj, Fits_i64] <;> omega) ?_
      refine run_back ?_
      refine run_to hpin [0, 1, 2, 3, 4, 5, 6] rfl rfl ?_ ih
      clear ih
      simp [conj, less_rfl, ren_rowL, ren_rG]
  · clear ih
    have : i = l.length := by simp at hh; omega
    subst this
    refine goK hB rfl rfl (by simp [conj]) ?_
    refine run_retC hpin () trivial [0, 1, 6] rfl rfl (by simp [conj]) rfl ?_
    simp [conj, less_rfl, ren_rowL, ren_rG]
end Sx
end
