/- Texts of this law, joined: what the functions do. Conditions: as each theorem says. -/
import Derived.Test.YtlpbmlfejiaamaaOwnX4
import Derived.Test.YtlpbmlfejiaamaaEngX5
set_option linter.unusedSimpArgs false
set_option linter.unusedVariables false
section
/- Package ana: Change, Remove at any groups. Conditions: as each theorem says. -/
namespace Sx
open Go Go.Proofs
set_option maxRecDepth 100000
set_option pp.deepTerms true
set_option pp.maxSteps 10000000
abbrev cfV : List Nat := [22]
def modeV : Mode := { st := true, unr := true, inl := fun f => !hasN f cfV, sum := sumOf sW, keep := fun _ => none }
theorem goV {B : Base} (hB : B.ok) {ro : Hp} {f : FuncId} {R : Ending → World → Prop} (S : List (Nat × Nat)) (m : Nat) {cs : List Prop} {c c' : Cfg} (h : execY Try.prog modeV ro S m [] c = (cs, c')) (hc : conj cs)
    (hr : Run Try.prog ro B f R c') : Run Try.prog ro B f R c := run_goY mixed named hB sW_ok S m h hc hr
theorem rG_set (to fr ch : Nat → Int) (j : Nat) (x y : Int) (i k : Nat) (hk : k < 3) : rG (fun i => if i = j then x else to i) (fun i => if i = j then y else fr i) (fun i => if i = j then IntKind.u64.wrap (ch i + 1) else ch i) i k = updF (updF (updF (rG to fr ch) j 0 [i64 x]) j 1 [i64 y]) j 2 [u64 (IntKind.u64.wrap (ch j + 1))] i k := by
  match k, hk with
  | 0, _ => by_cases h : i = j <;> simp [rG, updF, h]
  | 1, _ => by_cases h : i = j <;> simp [rG, updF, h]
  | 2, _ => by_cases h : i = j <;> simp [rG, updF, h]
set_option maxHeartbeats 4000000 in
theorem change_tldl (s : GS) (hs : GOk s) (now g to dur : Int) (hk : to < 1) (hd : dur < 0) : HC Try.prog 13 [.ptr 0 0, i64 now, i64 g, i64 to, i64 dur] (hpG s) [] 2 (fun _ : Unit => True) (fun _ => ⟨i64 2, hpG s, 2⟩) := by
  refine hc_of_run Try.func13 rfl (fun B hB hpin => ?_)
  have hn0 := hs.n0
  have hn1 := hs.n1
  refine goW hB [(13, 15)] 3000 rfl (by simp [conj, Fits_i64, isBo4, isPt23, isIf20] <;> omega) ?_
  refine run_ff (by simp <;> omega) ?_
  refine goW hB [(13, 17)] 3000 rfl (by simp [conj, Fits_i64, isBo4, isPt23, isIf20] <;> omega) ?_
  refine run_tt (by simp <;> omega) ?_
  refine goW hB [(13, 19)] 3000 rfl (by simp [conj, Fits_i64, isBo4, isPt23, isIf20] <;> omega) ?_
  refine run_ff (by simp <;> omega) ?_
  refine goW hB [(13, 21)] 3000 rfl (by simp [conj, Fits_i64, isBo4, isPt23, isIf20] <;> omega) ?_
  refine run_tt (by simp <;> omega) ?_
  refine goW hB [(36, 10)] 3000 rfl (by simp [conj, Fits_i64, isBo4, isPt23, isIf20] <;> omega) ?_
  refine run_ff (by have := hs.n0; simp <;> omega) ?_
  refine goW hB [] 3000 rfl (by simp [conj, Fits_i64, isBo4, isPt23, isIf20] <;> omega) ?_
  refine run_retCX hpin () trivial [0, 1] (.inl rfl) rfl rfl rfl rfl (by first | exact conj_nil | simp [conj]) (by first | exact conj_nil | simp [conj]) rfl ?_
  simp [conj, less_rfl, ren_rG, renR_rG]
set_option maxHeartbeats 4000000 in
theorem change_tldh (s : GS) (hs : GOk s) (now g to dur : Int) (hk : to < 1) (hd : 65536 < dur) : HC Try.prog 13 [.ptr 0 0, i64 now, i64 g, i64 to, i64 dur] (hpG s) [] 2 (fun _ : Unit => True) (fun _ => ⟨i64 2, hpG s, 2⟩) := by
  refine hc_of_run Try.func13 rfl (fun B hB hpin => ?_)
  have hn0 := hs.n0
  have hn1 := hs.n1
  refine goW hB [(13, 15)] 3000 rfl (by simp [conj, Fits_i64, isBo4, isPt23, isIf20] <;> omega) ?_
  refine run_ff (by simp <;> omega) ?_
  refine goW hB [(13, 17)] 3000 rfl (by simp [conj, Fits_i64, isBo4, isPt23, isIf20] <;> omega) ?_
  refine run_tt (by simp <;> omega) ?_
  refine goW hB [(13, 19)] 3000 rfl (by simp [conj, Fits_i64, isBo4, isPt23, isIf20] <;> omega) ?_
  refine run_tt (by simp <;> omega) ?_
  refine goW hB [(13, 21)] 3000 rfl (by simp [conj, Fits_i64, isBo4, isPt23, isIf20] <;> omega) ?_
  refine run_ff (by simp <;> omega) ?_
  refine goW hB [(36, 10)] 3000 rfl (by simp [conj, Fits_i64, isBo4, isPt23, isIf20] <;> omega) ?_
  refine run_ff (by have := hs.n0; simp <;> omega) ?_
  refine goW hB [] 3000 rfl (by simp [conj, Fits_i64, isBo4, isPt23, isIf20] <;> omega) ?_
  refine run_retCX hpin () trivial [0, 1] (.inl rfl) rfl rfl rfl rfl (by first | exact conj_nil | simp [conj]) (by first | exact conj_nil | simp [conj]) rfl ?_
  simp [conj, less_rfl, ren_rG, renR_rG]
set_option maxHeartbeats 4000000 in
theorem change_tldk (s : GS) (hs : GOk s) (now g to dur : Int) (hk : to < 1) (hd : 0 ≤ dur ∧ dur ≤ 65536) : HC Try.prog 13 [.ptr 0 0, i64 now, i64 g, i64 to, i64 dur] (hpG s) [] 2 (fun _ : Unit => True) (fun _ => ⟨i64 2, hpG s, 2⟩) := by
  refine hc_of_run Try.func13 rfl (fun B hB hpin => ?_)
  have hn0 := hs.n0
  have hn1 := hs.n1
  refine goW hB [(13, 15)] 3000 rfl (by simp [conj, Fits_i64, isBo4, isPt23, isIf20] <;> omega) ?_
  refine run_ff (by simp <;> omega) ?_
  refine goW hB [(13, 17)] 3000 rfl (by simp [conj, Fits_i64, isBo4, isPt23, isIf20] <;> omega) ?_
  refine run_tt (by simp <;> omega) ?_
  refine goW hB [(13, 19)] 3000 rfl (by simp [conj, Fits_i64, isBo4, isPt23, isIf20] <;> omega) ?_
  refine run_tt (by simp <;> omega) ?_
  refine goW hB [(13, 21)] 3000 rfl (by simp [conj, Fits_i64, isBo4, isPt23, isIf20] <;> omega) ?_
  refine run_tt (by simp <;> omega) ?_
  refine goW hB [(36, 10)] 3000 rfl (by simp [conj, Fits_i64, isBo4, isPt23, isIf20] <;> omega) ?_
  refine run_ff (by have := hs.n0; simp <;> omega) ?_
  refine goW hB [] 3000 rfl (by simp [conj, Fits_i64, isBo4, isPt23, isIf20] <;> omega) ?_
  refine run_retCX hpin () trivial [0, 1] (.inl rfl) rfl rfl rfl rfl (by first | exact conj_nil | simp [conj]) (by first | exact conj_nil | simp [conj]) rfl ?_
  simp [conj, less_rfl, ren_rG, renR_rG]
set_option maxHeartbeats 4000000 in
theorem change_thdl (s : GS) (hs : GOk s) (now g to dur : Int) (hk : 4 < to) (hd : dur < 0) : HC Try.prog 13 [.ptr 0 0, i64 now, i64 g, i64 to, i64 dur] (hpG s) [] 2 (fun _ : Unit => True) (fun _ => ⟨i64 2, hpG s, 2⟩) := by
  refine hc_of_run Try.func13 rfl (fun B hB hpin => ?_)
  have hn0 := hs.n0
  have hn1 := hs.n1
  refine goW hB [(13, 15)] 3000 rfl (by simp [conj, Fits_i64, isBo4, isPt23, isIf20] <;> omega) ?_
  refine run_tt (by simp <;> omega) ?_
  refine goW hB [(13, 17)] 3000 rfl (by simp [conj, Fits_i64, isBo4, isPt23, isIf20] <;> omega) ?_
  refine run_ff (by simp <;> omega) ?_
  refine goW hB [(13, 19)] 3000 rfl (by simp [conj, Fits_i64, isBo4, isPt23, isIf20] <;> omega) ?_
  refine run_ff (by simp <;> omega) ?_
  refine goW hB [(13, 21)] 3000 rfl (by simp [conj, Fits_i64, isBo4, isPt23, isIf20] <;> omega) ?_
  refine run_tt (by simp <;> omega) ?_
  refine goW hB [(36, 10)] 3000 rfl (by simp [conj, Fits_i64, isBo4, isPt23, isIf20] <;> omega) ?_
  refine run_ff (by have := hs.n0; simp <;> omega) ?_
  refine goW hB [] 3000 rfl (by simp [conj, Fits_i64, isBo4, isPt23, isIf20] <;> omega) ?_
  refine run_retCX hpin () trivial [0, 1] (.inl rfl) rfl rfl rfl rfl (by first | exact conj_nil | simp [conj]) (by first | exact conj_nil | simp [conj]) rfl ?_
  simp [conj, less_rfl, ren_rG, renR_rG]
set_option maxHeartbeats 4000000 in
theorem change_thdh (s : GS) (hs : GOk s) (now g to dur : Int) (hk : 4 < to) (hd : 65536 < dur) : HC Try.prog 13 [.ptr 0 0, i64 now, i64 g, i64 to, i64 dur] (hpG s) [] 2 (fun _ : Unit => True) (fun _ => ⟨i64 2, hpG s, 2⟩) := by
  refine hc_of_run Try.func13 rfl (fun B hB hpin => ?_)
  have hn0 := hs.n0
  have hn1 := hs.n1
  refine goW hB [(13, 15)] 3000 rfl (by simp [conj, Fits_i64, isBo4, isPt23, isIf20] <;> omega) ?_
  refine run_tt (by simp <;> omega) ?_
  refine goW hB [(13, 17)] 3000 rfl (by simp [conj, Fits_i64, isBo4, isPt23, isIf20] <;> omega) ?_
  refine run_ff (by simp <;> omega) ?_
  refine goW hB [(13, 19)] 3000 rfl (by simp [conj, Fits_i64, isBo4, isPt23, isIf20] <;> omega) ?_
  refine run_tt (by simp <;> omega) ?_
  refine goW hB [(13, 21)] 3000 rfl (by simp [conj, Fits_i64, isBo4, isPt23, isIf20] <;> omega) ?_
  refine run_ff (by simp <;> omega) ?_
  refine goW hB [(36, 10)] 3000 rfl (by simp [conj, Fits_i64, isBo4, isPt23, isIf20] <;> omega) ?_
  refine run_ff (by have := hs.n0; simp <;> omega) ?_
  refine goW hB [] 3000 rfl (by simp [conj, Fits_i64, isBo4, isPt23, isIf20] <;> omega) ?_
  refine run_retCX hpin () trivial [0, 1] (.inl rfl) rfl rfl rfl rfl (by first | exact conj_nil | simp [conj]) (by first | exact conj_nil | simp [conj]) rfl ?_
  simp [conj, less_rfl, ren_rG, renR_rG]
set_option maxHeartbeats 4000000 in
theorem change_thdk (s : GS) (hs : GOk s) (now g to dur : Int) (hk : 4 < to) (hd : 0 ≤ dur ∧ dur ≤ 65536) : HC Try.prog 13 [.ptr 0 0, i64 now, i64 g, i64 to, i64 dur] (hpG s) [] 2 (fun _ : Unit => True) (fun _ => ⟨i64 2, hpG s, 2⟩) := by
  refine hc_of_run Try.func13 rfl (fun B hB hpin => ?_)
  have hn0 := hs.n0
  have hn1 := hs.n1
  refine goW hB [(13, 15)] 3000 rfl (by simp [conj, Fits_i64, isBo4, isPt23, isIf20] <;> omega) ?_
  refine run_tt (by simp <;> omega) ?_
  refine goW hB [(13, 17)] 3000 rfl (by simp [conj, Fits_i64, isBo4, isPt23, isIf20] <;> omega) ?_
  refine run_ff (by simp <;> omega) ?_
  refine goW hB [(13, 19)] 3000 rfl (by simp [conj, Fits_i64, isBo4, isPt23, isIf20] <;> omega) ?_
  refine run_tt (by simp <;> omega) ?_
  refine goW hB [(13, 21)] 3000 rfl (by simp [conj, Fits_i64, isBo4, isPt23, isIf20] <;> omega) ?_
  refine run_tt (by simp <;> omega) ?_
  refine goW hB [(36, 10)] 3000 rfl (by simp [conj, Fits_i64, isBo4, isPt23, isIf20] <;> omega) ?_
  refine run_ff (by have := hs.n0; simp <;> omega) ?_
  refine goW hB [] 3000 rfl (by simp [conj, Fits_i64, isBo4, isPt23, isIf20] <;> omega) ?_
  refine run_retCX hpin () trivial [0, 1] (.inl rfl) rfl rfl rfl rfl (by first | exact conj_nil | simp [conj]) (by first | exact conj_nil | simp [conj]) rfl ?_
  simp [conj, less_rfl, ren_rG, renR_rG]
set_option maxHeartbeats 4000000 in
theorem change_tkdl (s : GS) (hs : GOk s) (now g to dur : Int) (hk : 1 ≤ to ∧ to ≤ 4) (hd : dur < 0) : HC Try.prog 13 [.ptr 0 0, i64 now, i64 g, i64 to, i64 dur] (hpG s) [] 2 (fun _ : Unit => True) (fun _ => ⟨i64 2, hpG s, 2⟩) := by
  refine hc_of_run Try.func13 rfl (fun B hB hpin => ?_)
  have hn0 := hs.n0
  have hn1 := hs.n1
  refine goW hB [(13, 15)] 3000 rfl (by simp [conj, Fits_i64, isBo4, isPt23, isIf20] <;> omega) ?_
  refine run_tt (by simp <;> omega) ?_
  refine goW hB [(13, 17)] 3000 rfl (by simp [conj, Fits_i64, isBo4, isPt23, isIf20] <;> omega) ?_
  refine run_tt (by simp <;> omega) ?_
  refine goW hB [(13, 19)] 3000 rfl (by simp [conj, Fits_i64, isBo4, isPt23, isIf20] <;> omega) ?_
  refine run_ff (by simp <;> omega) ?_
  refine goW hB [(13, 21)] 3000 rfl (by simp [conj, Fits_i64, isBo4, isPt23, isIf20] <;> omega) ?_
  refine run_tt (by simp <;> omega) ?_
  refine goW hB [(36, 10)] 3000 rfl (by simp [conj, Fits_i64, isBo4, isPt23, isIf20] <;> omega) ?_
  refine run_ff (by have := hs.n0; simp <;> omega) ?_
  refine goW hB [] 3000 rfl (by simp [conj, Fits_i64, isBo4, isPt23, isIf20] <;> omega) ?_
  refine run_retCX hpin () trivial [0, 1] (.inl rfl) rfl rfl rfl rfl (by first | exact conj_nil | simp [conj]) (by first | exact conj_nil | simp [conj]) rfl ?_
  simp [conj, less_rfl, ren_rG, renR_rG]
set_option maxHeartbeats 4000000 in
theorem change_tkdh (s : GS) (hs : GOk s) (now g to dur : Int) (hk : 1 ≤ to ∧ to ≤ 4) (hd : 65536 < dur) : HC Try.prog 13 [.ptr 0 0, i64 now, i64 g, i64 to, i64 dur] (hpG s) [] 2 (fun _ : Unit => True) (fun _ => ⟨i64 2, hpG s, 2⟩) := by
  refine hc_of_run Try.func13 rfl (fun B hB hpin => ?_)
  have hn0 := hs.n0
  have hn1 := hs.n1
  refine goW hB [(13, 15)] 3000 rfl (by simp [conj, Fits_i64, isBo4, isPt23, isIf20] <;> omega) ?_
  refine run_tt (by simp <;> omega) ?_
  refine goW hB [(13, 17)] 3000 rfl (by simp [conj, Fits_i64, isBo4, isPt23, isIf20] <;> omega) ?_
  refine run_tt (by simp <;> omega) ?_
  refine goW hB [(13, 19)] 3000 rfl (by simp [conj, Fits_i64, isBo4, isPt23, isIf20] <;> omega) ?_
  refine run_tt (by simp <;> omega) ?_
  refine goW hB [(13, 21)] 3000 rfl (by simp [conj, Fits_i64, isBo4, isPt23, isIf20] <;> omega) ?_
  refine run_ff (by simp <;> omega) ?_
  refine goW hB [(36, 10)] 3000 rfl (by simp [conj, Fits_i64, isBo4, isPt23, isIf20] <;> omega) ?_
  refine run_ff (by have := hs.n0; simp <;> omega) ?_
  refine goW hB [] 3000 rfl (by simp [conj, Fits_i64, isBo4, isPt23, isIf20] <;> omega) ?_
  refine run_retCX hpin () trivial [0, 1] (.inl rfl) rfl rfl rfl rfl (by first | exact conj_nil | simp [conj]) (by first | exact conj_nil | simp [conj]) rfl ?_
  simp [conj, less_rfl, ren_rG, renR_rG]
set_option maxHeartbeats 4000000 in
theorem change_lo (s : GS) (hs : GOk s) (now g to dur : Int) (hk : 1 ≤ to ∧ to ≤ 4) (hd : 0 ≤ dur ∧ dur ≤ 65536) (ht : now < 0) : HC Try.prog 13 [.ptr 0 0, i64 now, i64 g, i64 to, i64 dur] (hpG s) [] 2 (fun _ : Unit => True) (fun _ => ⟨i64 2, hpG s, 2⟩) := by
  refine hc_of_run Try.func13 rfl (fun B hB hpin => ?_)
  have hn0 := hs.n0
  have hn1 := hs.n1
  refine goW hB [(13, 15)] 3000 rfl (by simp [conj, Fits_i64, isBo4, isPt23, isIf20] <;> omega) ?_
  refine run_tt (by simp <;> omega) ?_
  refine goW hB [(13, 17)] 3000 rfl (by simp [conj, Fits_i64, isBo4, isPt23, isIf20] <;> omega) ?_
  refine run_tt (by simp <;> omega) ?_
  refine goW hB [(13, 19)] 3000 rfl (by simp [conj, Fits_i64, isBo4, isPt23, isIf20] <;> omega) ?_
  refine run_tt (by simp <;> omega) ?_
  refine goW hB [(13, 21)] 3000 rfl (by simp [conj, Fits_i64, isBo4, isPt23, isIf20] <;> omega) ?_
  refine run_tt (by simp <;> omega) ?_
  refine goW hB [(36, 10)] 3000 rfl (by simp [conj, Fits_i64, isBo4, isPt23, isIf20] <;> omega) ?_
  refine run_ff (by have := hs.n0; simp <;> omega) ?_
  refine goW hB [(40, 14)] 3000 rfl (by simp [conj, Fits_i64, isBo4, isPt23, isIf20] <;> omega) ?_
  refine run_ff (by simp <;> omega) ?_
  refine goW hB [(40, 16)] 3000 rfl (by simp [conj, Fits_i64, isBo4, isPt23, isIf20] <;> omega) ?_
  refine run_tt (by simp <;> omega) ?_
  refine goW hB [] 3000 rfl (by simp [conj, Fits_i64, isBo4, isPt23, isIf20] <;> omega) ?_
  refine run_retCX hpin () trivial [0, 1] (.inl rfl) rfl rfl rfl rfl (by first | exact conj_nil | simp [conj]) (by first | exact conj_nil | simp [conj]) rfl ?_
  simp [conj, less_rfl, ren_rG, renR_rG]
set_option maxHeartbeats 4000000 in
theorem change_hi (s : GS) (hs : GOk s) (now g to dur : Int) (hk : 1 ≤ to ∧ to ≤ 4) (hd : 0 ≤ dur ∧ dur ≤ 65536) (ht : 1099511627776 < now) : HC Try.prog 13 [.ptr 0 0, i64 now, i64 g, i64 to, i64 dur] (hpG s) [] 2 (fun _ : Unit => True) (fun _ => ⟨i64 2, hpG s, 2⟩) := by
  refine hc_of_run Try.func13 rfl (fun B hB hpin => ?_)
  have hn0 := hs.n0
  have hn1 := hs.n1
  refine goW hB [(13, 15)] 3000 rfl (by simp [conj, Fits_i64, isBo4, isPt23, isIf20] <;> omega) ?_
  refine run_tt (by simp <;> omega) ?_
  refine goW hB [(13, 17)] 3000 rfl (by simp [conj, Fits_i64, isBo4, isPt23, isIf20] <;> omega) ?_
  refine run_tt (by simp <;> omega) ?_
  refine goW hB [(13, 19)] 3000 rfl (by simp [conj, Fits_i64, isBo4, isPt23, isIf20] <;> omega) ?_
  refine run_tt (by simp <;> omega) ?_
  refine goW hB [(13, 21)] 3000 rfl (by simp [conj, Fits_i64, isBo4, isPt23, isIf20] <;> omega) ?_
  refine run_tt (by simp <;> omega) ?_
  refine goW hB [(36, 10)] 3000 rfl (by simp [conj, Fits_i64, isBo4, isPt23, isIf20] <;> omega) ?_
  refine run_ff (by have := hs.n0; simp <;> omega) ?_
  refine goW hB [(40, 14)] 3000 rfl (by simp [conj, Fits_i64, isBo4, isPt23, isIf20] <;> omega) ?_
  refine run_tt (by simp <;> omega) ?_
  refine goW hB [(40, 16)] 3000 rfl (by simp [conj, Fits_i64, isBo4, isPt23, isIf20] <;> omega) ?_
  refine run_ff (by simp <;> omega) ?_
  refine goW hB [] 3000 rfl (by simp [conj, Fits_i64, isBo4, isPt23, isIf20] <;> omega) ?_
  refine run_retCX hpin () trivial [0, 1] (.inl rfl) rfl rfl rfl rfl (by first | exact conj_nil | simp [conj]) (by first | exact conj_nil | simp [conj]) rfl ?_
  simp [conj, less_rfl, ren_rG, renR_rG]
set_option maxHeartbeats 4000000 in
theorem change_glo (s : GS) (hs : GOk s) (now g to dur : Int) (hk : 1 ≤ to ∧ to ≤ 4) (hd : 0 ≤ dur ∧ dur ≤ 65536) (ht : 0 ≤ now ∧ now ≤ 1099511627776) (hg : g < 1) : HC Try.prog 13 [.ptr 0 0, i64 now, i64 g, i64 to, i64 dur] (hpG s) [] 2 (fun _ : Unit => True) (fun _ => ⟨i64 3, hpG (gAt s now), 2⟩) := by
  refine hc_of_run Try.func13 rfl (fun B hB hpin => ?_)
  have hn0 := hs.n0
  have hn1 := hs.n1
  refine goW hB [(13, 15)] 3000 rfl (by simp [conj, Fits_i64, isBo4, isPt23, isIf20] <;> omega) ?_
  refine run_tt (by simp <;> omega) ?_
  refine goW hB [(13, 17)] 3000 rfl (by simp [conj, Fits_i64, isBo4, isPt23, isIf20] <;> omega) ?_
  refine run_tt (by simp <;> omega) ?_
  refine goW hB [(13, 19)] 3000 rfl (by simp [conj, Fits_i64, isBo4, isPt23, isIf20] <;> omega) ?_
  refine run_tt (by simp <;> omega) ?_
  refine goW hB [(13, 21)] 3000 rfl (by simp [conj, Fits_i64, isBo4, isPt23, isIf20] <;> omega) ?_
  refine run_tt (by simp <;> omega) ?_
  refine goW hB [(36, 10)] 3000 rfl (by simp [conj, Fits_i64, isBo4, isPt23, isIf20] <;> omega) ?_
  refine run_ff (by have := hs.n0; simp <;> omega) ?_
  refine goW hB [(40, 14)] 3000 rfl (by simp [conj, Fits_i64, isBo4, isPt23, isIf20] <;> omega) ?_
  refine run_tt (by simp <;> omega) ?_
  refine goW hB [(40, 16)] 3000 rfl (by simp [conj, Fits_i64, isBo4, isPt23, isIf20] <;> omega) ?_
  refine run_tt (by simp <;> omega) ?_
  refine goW hB [(38, 5)] 3000 rfl (by simp [conj, Fits_i64, isBo4, isPt23, isIf20] <;> omega) ?_
  refine run_ff (by simp <;> omega) ?_
  refine goW hB [(38, 11)] 3000 rfl (by simp [conj, Fits_i64, isBo4, isPt23, isIf20] <;> omega) ?_
  refine run_tt (by simp <;> omega) ?_
  refine goW hB [] 3000 rfl (by simp [conj, Fits_i64, isBo4, isPt23, isIf20] <;> omega) ?_
  refine run_retCX hpin () trivial [0, 1] (.inl rfl) rfl rfl rfl rfl (by first | exact conj_nil | simp [conj]) (by first | exact conj_nil | simp [conj]) rfl ?_
  simp [conj, less_rfl, ren_rG, renR_rG]
set_option maxHeartbeats 4000000 in
theorem change_ghi (s : GS) (hs : GOk s) (now g to dur : Int) (hk : 1 ≤ to ∧ to ≤ 4) (hd : 0 ≤ dur ∧ dur ≤ 65536) (ht : 0 ≤ now ∧ now ≤ 1099511627776) (hg : s.n < g) : HC Try.prog 13 [.ptr 0 0, i64 now, i64 g, i64 to, i64 dur] (hpG s) [] 2 (fun _ : Unit => True) (fun _ => ⟨i64 3, hpG (gAt s now), 2⟩) := by
  refine hc_of_run Try.func13 rfl (fun B hB hpin => ?_)
  have hn0 := hs.n0
  have hn1 := hs.n1
  refine goW hB [(13, 15)] 3000 rfl (by simp [conj, Fits_i64, isBo4, isPt23, isIf20] <;> omega) ?_
  refine run_tt (by simp <;> omega) ?_
  refine goW hB [(13, 17)] 3000 rfl (by simp [conj, Fits_i64, isBo4, isPt23, isIf20] <;> omega) ?_
  refine run_tt (by simp <;> omega) ?_
  refine goW hB [(13, 19)] 3000 rfl (by simp [conj, Fits_i64, isBo4, isPt23, isIf20] <;> omega) ?_
  refine run_tt (by simp <;> omega) ?_
  refine goW hB [(13, 21)] 3000 rfl (by simp [conj, Fits_i64, isBo4, isPt23, isIf20] <;> omega) ?_
  refine run_tt (by simp <;> omega) ?_
  refine goW hB [(36, 10)] 3000 rfl (by simp [conj, Fits_i64, isBo4, isPt23, isIf20] <;> omega) ?_
  refine run_ff (by have := hs.n0; simp <;> omega) ?_
  refine goW hB [(40, 14)] 3000 rfl (by simp [conj, Fits_i64, isBo4, isPt23, isIf20] <;> omega) ?_
  refine run_tt (by simp <;> omega) ?_
  refine goW hB [(40, 16)] 3000 rfl (by simp [conj, Fits_i64, isBo4, isPt23, isIf20] <;> omega) ?_
  refine run_tt (by simp <;> omega) ?_
  refine goW hB [(38, 5)] 3000 rfl (by simp [conj, Fits_i64, isBo4, isPt23, isIf20] <;> omega) ?_
  refine run_tt (by simp <;> omega) ?_
  refine goW hB [(38, 11)] 3000 rfl (by simp [conj, Fits_i64, isBo4, isPt23, isIf20] <;> omega) ?_
  refine run_ff (by simp <;> omega) ?_
  refine goW hB [] 3000 rfl (by simp [conj, Fits_i64, isBo4, isPt23, isIf20] <;> omega) ?_
  refine run_retCX hpin () trivial [0, 1] (.inl rfl) rfl rfl rfl rfl (by first | exact conj_nil | simp [conj]) (by first | exact conj_nil | simp [conj]) rfl ?_
  simp [conj, less_rfl, ren_rG, renR_rG]
set_option maxHeartbeats 4000000 in
theorem change_in (s : GS) (hs : GOk s) (now g to dur : Int) (hk : 1 ≤ to ∧ to ≤ 4) (hd : 0 ≤ dur ∧ dur ≤ 65536) (ht : 0 ≤ now ∧ now ≤ 1099511627776) (hg : 1 ≤ g ∧ g ≤ s.n) (hq : max s.now now < s.fr (g - 1).toNat) : HC Try.prog 13 [.ptr 0 0, i64 now, i64 g, i64 to, i64 dur] (hpG s) [] 2 (fun _ : Unit => True) (fun _ => ⟨i64 0, hpG (gSet (gAt s now) g to dur), 2⟩) := by
  refine hc_of_run Try.func13 rfl (fun B hB hpin => ?_)
  have hn0 := hs.n0
  have hn1 := hs.n1
  have hf := hs.f0 (g - 1).toNat
  have hc := hs.c0 (g - 1).toNat
  have hnow := hs.t1
  have hnow0 := hs.t0
  refine goW hB [(13, 15)] 3000 rfl (by simp [conj, Fits_i64, isBo4, isPt23, isIf20] <;> omega) ?_
  refine run_tt (by simp <;> omega) ?_
  refine goW hB [(13, 17)] 3000 rfl (by simp [conj, Fits_i64, isBo4, isPt23, isIf20] <;> omega) ?_
  refine run_tt (by simp <;> omega) ?_
  refine goW hB [(13, 19)] 3000 rfl (by simp [conj, Fits_i64, isBo4, isPt23, isIf20] <;> omega) ?_
  refine run_tt (by simp <;> omega) ?_
  refine goW hB [(13, 21)] 3000 rfl (by simp [conj, Fits_i64, isBo4, isPt23, isIf20] <;> omega) ?_
  refine run_tt (by simp <;> omega) ?_
  refine goW hB [(36, 10)] 3000 rfl (by simp [conj, Fits_i64, isBo4, isPt23, isIf20] <;> omega) ?_
  refine run_ff (by have := hs.n0; simp <;> omega) ?_
  refine goW hB [(40, 14)] 3000 rfl (by simp [conj, Fits_i64, isBo4, isPt23, isIf20] <;> omega) ?_
  refine run_tt (by simp <;> omega) ?_
  refine goW hB [(40, 16)] 3000 rfl (by simp [conj, Fits_i64, isBo4, isPt23, isIf20] <;> omega) ?_
  refine run_tt (by simp <;> omega) ?_
  refine goW hB [(38, 5)] 3000 rfl (by simp [conj, Fits_i64, isBo4, isPt23, isIf20] <;> omega) ?_
  refine run_tt (by simp <;> omega) ?_
  refine goW hB [(38, 11)] 3000 rfl (by simp [conj, Fits_i64, isBo4, isPt23, isIf20] <;> omega) ?_
  refine run_tt (by simp <;> omega) ?_
  refine goW hB [(41, 20)] 3000 rfl (by simp [conj, Fits_i64, isBo4, isPt23, isIf20] <;> omega) ?_
  refine run_tt (by simpa using hq) ?_
  refine goW hB [] 3000 rfl (by simp [conj, Fits_i64, isBo4, isPt23, isIf20] <;> omega) ?_
  refine run_retCX hpin () trivial [0, 1] (.inl rfl) rfl rfl rfl rfl (by first | exact conj_nil | simp [conj]) (by first | exact conj_nil | simp [conj]) rfl ?_
  simp [conj, less_rfl, ren_rG, renR_rG]
  intro i k _ hk3
  rw [rG_set _ _ _ _ _ _ _ _ hk3]; exact (less_rfl _).mpr trivial
set_option maxHeartbeats 4000000 in
theorem change_lost (s : GS) (hs : GOk s) (now g to dur : Int) (hk : 1 ≤ to ∧ to ≤ 4) (hd : 0 ≤ dur ∧ dur ≤ 65536) (ht : 0 ≤ now ∧ now ≤ 1099511627776) (hg : 1 ≤ g ∧ g ≤ s.n) (hq : ¬ max s.now now < s.fr (g - 1).toNat) (hl : s.to (g - 1).toNat = 4) : HC Try.prog 13 [.ptr 0 0, i64 now, i64 g, i64 to, i64 dur] (hpG s) [] 2 (fun _ : Unit => True) (fun _ => ⟨i64 8, hpG (gAt s now), 2⟩) := by
  refine hc_of_run Try.func13 rfl (fun B hB hpin => ?_)
  have hn0 := hs.n0
  have hn1 := hs.n1
  have hf := hs.f0 (g - 1).toNat
  have hc := hs.c0 (g - 1).toNat
  have hnow := hs.t1
  have hnow0 := hs.t0
  refine goW hB [(13, 15)] 3000 rfl (by simp [conj, Fits_i64, isBo4, isPt23, isIf20] <;> omega) ?_
  refine run_tt (by simp <;> omega) ?_
  refine goW hB [(13, 17)] 3000 rfl (by simp [conj, Fits_i64, isBo4, isPt23, isIf20] <;> omega) ?_
  refine run_tt (by simp <;> omega) ?_
  refine goW hB [(13, 19)] 3000 rfl (by simp [conj, Fits_i64, isBo4, isPt23, isIf20] <;> omega) ?_
  refine run_tt (by simp <;> omega) ?_
  refine goW hB [(13, 21)] 3000 rfl (by simp [conj, Fits_i64, isBo4, isPt23, isIf20] <;> omega) ?_
  refine run_tt (by simp <;> omega) ?_
  refine goW hB [(36, 10)] 3000 rfl (by simp [conj, Fits_i64, isBo4, isPt23, isIf20] <;> omega) ?_
  refine run_ff (by have := hs.n0; simp <;> omega) ?_
  refine goW hB [(40, 14)] 3000 rfl (by simp [conj, Fits_i64, isBo4, isPt23, isIf20] <;> omega) ?_
  refine run_tt (by simp <;> omega) ?_
  refine goW hB [(40, 16)] 3000 rfl (by simp [conj, Fits_i64, isBo4, isPt23, isIf20] <;> omega) ?_
  refine run_tt (by simp <;> omega) ?_
  refine goW hB [(38, 5)] 3000 rfl (by simp [conj, Fits_i64, isBo4, isPt23, isIf20] <;> omega) ?_
  refine run_tt (by simp <;> omega) ?_
  refine goW hB [(38, 11)] 3000 rfl (by simp [conj, Fits_i64, isBo4, isPt23, isIf20] <;> omega) ?_
  refine run_tt (by simp <;> omega) ?_
  refine goW hB [(41, 20)] 3000 rfl (by simp [conj, Fits_i64, isBo4, isPt23, isIf20] <;> omega) ?_
  refine run_ff (by simpa using hq) ?_
  refine goW hB [(13, 30)] 3000 rfl (by simp [conj, Fits_i64, isBo4, isPt23, isIf20] <;> omega) ?_
  refine run_ff (by simpa using hl) ?_
  refine goW hB [] 3000 rfl (by simp [conj, Fits_i64, isBo4, isPt23, isIf20] <;> omega) ?_
  refine run_retCX hpin () trivial [0, 1] (.inl rfl) rfl rfl rfl rfl (by first | exact conj_nil | simp [conj]) (by first | exact conj_nil | simp [conj]) rfl ?_
  simp [conj, less_rfl, ren_rG, renR_rG]
set_option maxHeartbeats 4000000 in
theorem change_ok (s : GS) (hs : GOk s) (now g to dur : Int) (hk : 1 ≤ to ∧ to ≤ 4) (hd : 0 ≤ dur ∧ dur ≤ 65536) (ht : 0 ≤ now ∧ now ≤ 1099511627776) (hg : 1 ≤ g ∧ g ≤ s.n) (hq : ¬ max s.now now < s.fr (g - 1).toNat) (hl : ¬ s.to (g - 1).toNat = 4) : HC Try.prog 13 [.ptr 0 0, i64 now, i64 g, i64 to, i64 dur] (hpG s) [] 2 (fun _ : Unit => True) (fun _ => ⟨i64 0, hpG (gSet (gAt s now) g to dur), 2⟩) := by
  refine hc_of_run Try.func13 rfl (fun B hB hpin => ?_)
  have hn0 := hs.n0
  have hn1 := hs.n1
  have hf := hs.f0 (g - 1).toNat
  have hc := hs.c0 (g - 1).toNat
  have hnow := hs.t1
  have hnow0 := hs.t0
  refine goW hB [(13, 15)] 3000 rfl (by simp [conj, Fits_i64, isBo4, isPt23, isIf20] <;> omega) ?_
  refine run_tt (by simp <;> omega) ?_
  refine goW hB [(13, 17)] 3000 rfl (by simp [conj, Fits_i64, isBo4, isPt23, isIf20] <;> omega) ?_
  refine run_tt (by simp <;> omega) ?_
  refine goW hB [(13, 19)] 3000 rfl (by simp [conj, Fits_i64, isBo4, isPt23, isIf20] <;> omega) ?_
  refine run_tt (by simp <;> omega) ?_
  refine goW hB [(13, 21)] 3000 rfl (by simp [conj, Fits_i64, isBo4, isPt23, isIf20] <;> omega) ?_
  refine run_tt (by simp <;> omega) ?_
  refine goW hB [(36, 10)] 3000 rfl (by simp [conj, Fits_i64, isBo4, isPt23, isIf20] <;> omega) ?_
  refine run_ff (by have := hs.n0; simp <;> omega) ?_
  refine goW hB [(40, 14)] 3000 rfl (by simp [conj, Fits_i64, isBo4, isPt23, isIf20] <;> omega) ?_
  refine run_tt (by simp <;> omega) ?_
  refine goW hB [(40, 16)] 3000 rfl (by simp [conj, Fits_i64, isBo4, isPt23, isIf20] <;> omega) ?_
  refine run_tt (by simp <;> omega) ?_
  refine goW hB [(38, 5)] 3000 rfl (by simp [conj, Fits_i64, isBo4, isPt23, isIf20] <;> omega) ?_
  refine run_tt (by simp <;> omega) ?_
  refine goW hB [(38, 11)] 3000 rfl (by simp [conj, Fits_i64, isBo4, isPt23, isIf20] <;> omega) ?_
  refine run_tt (by simp <;> omega) ?_
  refine goW hB [(41, 20)] 3000 rfl (by simp [conj, Fits_i64, isBo4, isPt23, isIf20] <;> omega) ?_
  refine run_ff (by simpa using hq) ?_
  refine goW hB [(13, 30)] 3000 rfl (by simp [conj, Fits_i64, isBo4, isPt23, isIf20] <;> omega) ?_
  refine run_tt (by simpa using hl) ?_
  refine goW hB [] 3000 rfl (by simp [conj, Fits_i64, isBo4, isPt23, isIf20] <;> omega) ?_
  refine run_retCX hpin () trivial [0, 1] (.inl rfl) rfl rfl rfl rfl (by first | exact conj_nil | simp [conj]) (by first | exact conj_nil | simp [conj]) rfl ?_
  simp [conj, less_rfl, ren_rG, renR_rG]
  intro i k _ hk3
  rw [rG_set _ _ _ _ _ _ _ _ hk3]; exact (less_rfl _).mpr trivial
set_option maxHeartbeats 4000000 in
theorem remove_ok (s : GS) (hs : GOk s) (nm : Int) (hq : nameOk nm = true) (hb : 0 < grp s nm) : HC Try.prog 24 [.ptr 0 0, u32 nm] (hpG s) [] 2 (fun _ : Unit => True) (fun _ => ⟨i64 0, hpG (gDel s nm), 2⟩) := by
  refine hc_of_run Try.func24 rfl (fun B hB hpin => ?_)
  have hn0 := hs.n0
  have hn1 := hs.n1
  refine goV hB [] 3000 rfl (by simp [conj]) ?_
  refine run_callC (group_ok s hs nm hq hb) named hB [0, 1] rfl rfl rfl rfl (by simp [conj]) (by simp [conj, less_rfl, ren_rG, renR_rG]) ?_
  rintro ⟨⟩ _
  refine ⟨show 2 ≤ 2 by omega, _, _, _, rfl, rfl, rfl, ?_⟩
  refine goV hB [] 3000 rfl (by simp [conj]) ?_
  refine run_mdel rfl rfl (by simp [conj]) rfl rfl rfl ?_
  refine goV hB [] 3000 rfl (by simp [conj]) ?_
  refine run_retC hpin () trivial [0, 1] rfl rfl (by simp [conj]) rfl ?_
  simp [conj, less_rfl, ren_rG, renR_rG]
set_option maxHeartbeats 4000000 in
theorem remove_no (s : GS) (hs : GOk s) (nm : Int) (hq : nameOk nm = true) (hb : ¬ 0 < grp s nm) : HC Try.prog 24 [.ptr 0 0, u32 nm] (hpG s) [] 2 (fun _ : Unit => True) (fun _ => ⟨i64 9, hpG s, 2⟩) := by
  refine hc_of_run Try.func24 rfl (fun B hB hpin => ?_)
  have hn0 := hs.n0
  have hn1 := hs.n1
  refine goV hB [] 3000 rfl (by simp [conj]) ?_
  refine run_callC (group_no s hs nm hq hb) named hB [0, 1] rfl rfl rfl rfl (by simp [conj]) (by simp [conj, less_rfl, ren_rG, renR_rG]) ?_
  rintro ⟨⟩ _
  refine ⟨show 2 ≤ 2 by omega, _, _, _, rfl, rfl, rfl, ?_⟩
  refine goV hB [] 3000 rfl (by simp [conj]) ?_
  refine run_retC hpin () trivial [0, 1] rfl rfl (by simp [conj]) rfl ?_
  simp [conj, less_rfl, ren_rG, renR_rG]
set_option maxHeartbeats 4000000 in
theorem remove_name (s : GS) (hs : GOk s) (nm : Int) (hq : nameOk nm = false) : HC Try.prog 24 [.ptr 0 0, u32 nm] (hpG s) [] 2 (fun _ : Unit => True) (fun _ => ⟨i64 2, hpG s, 2⟩) := by
  refine hc_of_run Try.func24 rfl (fun B hB hpin => ?_)
  have hn0 := hs.n0
  have hn1 := hs.n1
  refine goV hB [] 3000 rfl (by simp [conj]) ?_
  refine run_callC (group_name s hs nm hq) named hB [0, 1] rfl rfl rfl rfl (by simp [conj]) (by simp [conj, less_rfl, ren_rG, renR_rG]) ?_
  rintro ⟨⟩ _
  refine ⟨show 2 ≤ 2 by omega, _, _, _, rfl, rfl, rfl, ?_⟩
  refine goV hB [] 3000 rfl (by simp [conj]) ?_
  refine run_retC hpin () trivial [0, 1] rfl rfl (by simp [conj]) rfl ?_
  simp [conj, less_rfl, ren_rG, renR_rG]
end Sx
end
section
/- Package ana: the members of a group, by increasing identifier. Conditions: as each theorem says. -/
namespace Sx
open Go Go.Proofs
set_option maxRecDepth 100000
set_option pp.deepTerms true
set_option pp.maxSteps 10000000
theorem fl_take (p : Int → Bool) (l : List Int) (i : Nat) (hi : i < l.length) : (l.take (i + 1)).filter p = if p (lsD l i) = true then (l.take i).filter p ++ [lsD l i] else (l.take i).filter p := by
  have e : l.take (i + 1) = l.take i ++ [lsD l i] := by
    rw [List.take_succ_eq_append_getElem hi]
    simp [lsD, hi]
  rw [e, List.filter_append]
  by_cases h : p (lsD l i) = true <;> simp [List.filter_cons, h]
theorem len_filter (p : Int → Bool) (l : List Int) (i : Nat) : ((l.take i).filter p).length ≤ l.length := Nat.le_trans (List.length_filter_le _ _) (by rw [List.length_take]; omega)
theorem lsD_mem (l : List Int) (i : Nat) (hi : i < l.length) : lsD l i ∈ l := by
  have e1 : lsD l i = l[i] := by simp [lsD, hi]
  rw [e1]; exact List.getElem_mem hi
/-- The members of a group. -/
def memP (s : GS) (g x : Int) : Bool := decide (grp s x = g)
def mem (s : GS) (g : Int) (l : List Int) : List Int := l.filter (memP s g)
theorem list_hc (s : GS) (l : List Int) (hk : KeysOf s.h l) (hl : l.length < 129) (g : Int) :
    HC Try.prog 50 [.ptr 0 0, i64 g] [(1, mmap s)] [(0, gobj s 1)] 2 (fun _ : Unit => True) (fun _ => ⟨.sq 2 0 0 1 (mem s g l).length .own, [(1, mmap s), (2, .row 0 (mem s g l).length (mem s g l).length 1 (rowL .u32 (mem s g l)) 29)], 3⟩) := by
  refine hc_of_run Try.func50 rfl (fun B hB hpin => ?_)
  refine goK hB rfl rfl (by simp [conj]) ?_
  refine run_callC (sortedN_hc s.h s.v l hk hl) named hB [4, 1] rfl rfl rfl rfl (by simp [conj]) (by simp [conj, less_rfl]) ?_
  rintro ⟨⟩ _
  refine ⟨show 2 ≤ 3 by omega, _, _, _, rfl, rfl, rfl, ?_⟩
  refine goK hB rfl rfl (by simp [conj]) ?_
  refine run_loop ?_
  have hfl : mem s g l = (l.take l.length).filter (memP s g) := by rw [List.take_length]; rfl
  rw [hfl]
  generalize hp : memP s g = p
  refine run_invK (ι := Nat) hpin (fun i => i ≤ l.length) (fun i => l.length - i) (fun i => [(9, i64 i), (8, i64 l.length), (7, .sq 5 0 0 1 l.length .own), (4, .sq 6 0 0 1 ((l.take i).filter p).length .own), (1, .clo (.func 77) [] [.ptr 2 0, .ptr 3 0])]) (fun _ => [[]]) [] (fun i => [(1, mmap s), (5, .row 0 l.length l.length 1 (rowL .u32 l) 29), (6, .row 0 ((l.take i).filter p).length ((l.take i).filter p).length 1 (rowL .u32 ((l.take i).filter p)) 29), (3, .cells [i64 g] 3), (2, .cells [.ptr 0 0] 23)]) 7 0 (Nat.zero_le _)
    [0, 1, 2, 3, 4, 5, 6] rfl rfl (by
      simp [conj, less_rfl, ren_rowL, renR_rowL, ren_rG]) ?_
  intro i hi ih
  refine goK hB rfl rfl (by simp [conj]) ?_
  refine run_cond rfl (fun hh => ?_) (fun hh => ?_)
  · have hi1 : i < l.length := by simpa using hh
    have ih := ih (i + 1) (by omega) (by omega)
    have e1 := fl_take p l i hi1
    have hm : s.h (lsD l i) = true := (hk.2 _).1 (lsD_mem l i hi1)
    have hlen := len_filter p l i
    have e0 : 0 + ((i : Nat) : Int).toNat = i := by omega
    generalize (l.take i).filter p = L at e1 hlen ⊢
    refine goK hB rfl rfl (by simp [conj, isPt23, isBo4] <;> omega) ?_
    rw [e0]
    have hpx : p (lsD l i) = decide ((bif s.h (l.getD i 0) then s.v (l.getD i 0) else 0) = g) := by rw [← hp]; rfl
    refine run_cond rfl (fun hq => ?_) (fun hq => ?_)
    · have hq' : p (lsD l i) = true := hpx.trans hq
      rw [if_pos hq'] at e1
      rw [e1] at ih
      refine goK hB rfl rfl (by simp [conj, Fits_i64] <;> omega) ?_
      refine run_back ?_
      refine run_to hpin [0, 1, 2, 3, 4, 5, 17] rfl rfl ?_ ih
      clear ih
      simp [conj, less_rfl, ren_rowL, ren_rG]
      clear hfl
      exact fun j hj => Less.of (app_rowL L _ j hj)
    · have hq' : ¬ p (lsD l i) = true := by
        rw [hpx]
        intro h'
        rw [show decide ((bif s.h (l.getD i 0) then s.v (l.getD i 0) else 0) = g) = false from hq] at h'
        cases h'
      rw [if_neg hq'] at e1
      rw [e1] at ih
      refine goK hB rfl rfl (by simp [conj, Fits_i64] <;> omega) ?_
      refine run_back ?_
      refine run_to hpin [0, 1, 2, 3, 4, 5, 6] rfl rfl ?_ ih
      clear ih
      simp [conj, less_rfl, ren_rowL, ren_rG]
  · clear ih
    have : i = l.length := by simp at hh; omega
    subst this
    refine goK hB rfl rfl (by simp [conj]) ?_
    refine run_retC hpin () trivial [0, 1, 6] rfl rfl (by simp [conj]) rfl ?_
    simp [conj, less_rfl, ren_rowL, ren_rG]
end Sx
end
section
/- Package ana: Log at any groups. Conditions: as each theorem says. -/
namespace Sx
open Go Go.Proofs
set_option maxRecDepth 100000
set_option pp.deepTerms true
set_option pp.maxSteps 10000000
/-- What is said of a group in a log: the members are values known for good. -/
def lrow (s : GS) (V : Nat → Value) : Nat → Nat → SV := fun i k => match k with
  | 0 => i64 ((i : Int) + 1)
  | 1 => i64 (stO s ((i : Int) + 1))
  | 2 => u64 (s.ch i)
  | _ => .val (V i)
theorem ren_lrow (nx : Nat) (sg : List Nat) (s : GS) (V : Nat → Value) (i k : Nat) : ren nx sg (lrow s V i k) = lrow s V i k := by
  unfold lrow; split <;> simp only [ren, renF, id]
/-- The sum of the first counts. -/
def tot (s : GS) : Nat → Int
  | 0 => 0
  | i + 1 => IntKind.u64.wrap (tot s i + s.ch i)
/-- V's first n values hold the members. -/
def MOK (K : Kn) (s : GS) (l : List Int) (V : Nat → Value) (n : Nat) : Prop := ∀ i, i < n → Froz K (V i) (mem s ((i : Int) + 1) l).length 1 (rowL .u32 (mem s ((i : Int) + 1) l))
abbrev cfL : List Nat := [41, 50, 74, 75]
def modeL : Mode := { st := true, unr := false, inl := fun f => !hasN f cfL, sum := sumOf sW, keep := fun _ => none }
theorem goL {B : Base} (hB : B.ok) {ro : Hp} {f : FuncId} {R : Ending → World → Prop} {cs0 cs : List Prop} {c c0 c' : Cfg} (h0 : stepD Try.prog modeL ro c = some (cs0, c0)) (h : execG Try.prog modeL ro 400 cs0 c0 = (cs, c')) (hc : conj cs)
    (hr : Run Try.prog ro B f R c') : Run Try.prog ro B f R c := run_go mixed named hB sW_ok 400 h0 h hc hr
abbrev hpL (s : GS) (i : Nat) (V : Nat → Value) : Hp := [(0, gobj s 1), (1, mmap s), (2, .cells [u64 (tot s i), .sq 4 0 0 4 i .own] 67), (3, .cells [i64 0] 24), (4, .row 0 i i 4 (lrow s V) 81)]
abbrev gobjU (s : GS) : SO := .arr [i64 s.now] 128 3 (rG s.to s.fr s.ch) [i64 s.n, .und] 64
theorem state_hc (s : GS) (hs : GOk s) (g : Int) (hg : 1 ≤ g ∧ g ≤ s.n) : HC Try.prog 41 [.ptr 0 0, i64 g] [] [(0, gobjU s)] 1 (fun _ : Unit => True) (fun _ => ⟨i64 (stO s g), [], 1⟩) := by
  have hn1 := hs.n1
  refine hc_of_run Try.func41 rfl (fun B hB hpin => ?_)
  refine goW hB [(41, 20)] 3000 rfl (by simp [conj, Fits_i64, isBo4, isPt23, isIf20] <;> omega) ?_
  unfold stO
  by_cases hq : s.now < s.fr (g - 1).toNat
  · rw [if_pos hq]
    refine run_tt (by simpa using hq) ?_
    refine goW hB [] 3000 rfl (by simp [conj]) ?_
    refine run_retC hpin () trivial [0] rfl rfl (by simp [conj]) rfl ?_
    simp [conj, less_rfl, ren_rG]
  · rw [if_neg hq]
    refine run_ff (by simpa using hq) ?_
    refine goW hB [] 3000 rfl (by simp [conj]) ?_
    refine run_retC hpin () trivial [0] rfl rfl (by simp [conj]) rfl ?_
    simp [conj, less_rfl, ren_rG]
theorem GOk.at {s : GS} (hs : GOk s) {now : Int} (ht : 0 ≤ now ∧ now ≤ 1099511627776) : GOk (gAt s now) := ⟨hs.n0, hs.n1, by have := hs.t0; simp; omega, by have := hs.t1; simp; omega, hs.f0, hs.c0, hs.v0⟩
def rcSt (s : GS) (g : Int) : RC := ⟨41, [.ptr 0 0, i64 g], [], [(0, gobjU s)], 1, i64 (stO s g), [], 1, [0]⟩
def rcLi (s : GS) (l : List Int) (g : Int) : RC := ⟨50, [.ptr 0 0, i64 g], [(1, mmap s)], [(0, gobj s 1)], 2, .sq 2 0 0 1 (mem s g l).length .own, [(1, mmap s), (2, .row 0 (mem s g l).length (mem s g l).length 1 (rowL .u32 (mem s g l)) 29)], 3, [0, 1]⟩
theorem blt_self (i : Nat) : Nat.blt i i = false := by
  cases h : Nat.blt i i with
  | false => rfl
  | true => rw [Nat.blt_eq] at h; omega
theorem closed_rowL (l : List Int) (i k : Nat) (hk : k < 1) : (rowL .u32 l i k).closed = true := by
  obtain rfl : k = 0 := by omega
  rfl
theorem tot_at (s : GS) (now : Int) (i : Nat) : tot (gAt s now) i = tot s i := by
  induction i with
  | zero => rfl
  | succ i ih => unfold tot; rw [ih]
theorem lrow_app (s : GS) (V : Nat → Value) (i : Nat) (v : Value) (x : SV) (c : Int) (hc : c = s.ch i) (F' : Nat → Nat → SV) (h : ∀ a b, a < i + 1 → b < 4 → F' a b = if a = i ∧ b = 3 then .val v else appF (lrow s V) i (fun a k => [i64 ((i : Int) + 1), i64 (stO s ((i : Int) + 1)), u64 c, x].getD ((0 + a) * 4 + k) .und) a b) (a b : Nat) (ha : a < i + 1) (hb : b < 4) :
    F' a b = lrow s (fun j => if j = i then v else V j) a b := by
  rw [h a b ha hb]
  subst hc
  by_cases e : a = i
  · subst e
    simp only [appF, blt_self, cond_false, Nat.sub_self, true_and]
    match b, hb with
    | 0, _ => rfl
    | 1, _ => rfl
    | 2, _ => rfl
    | 3, _ => simp [lrow]
  · have hlt : Nat.blt a i = true := by rw [Nat.blt_eq]; omega
    simp only [appF, hlt, cond_true, e, false_and, if_false]
    match b, hb with
    | 0, _ => rfl
    | 1, _ => rfl
    | 2, _ => rfl
    | 3, _ => simp [lrow, e]
theorem log_hcx (K : Kn) (s : GS) (hs : GOk s) (l : List Int) (hk : KeysOf s.h l) (hl : l.length < 129) (now : Int) (ht : 0 ≤ now ∧ now ≤ 1099511627776) :
    HCX Try.prog K M0 21 [.ptr 0 0, i64 now] (hpG s) [] 2 (fun (V : Nat → Value) K' => MOK K' s l V s.n.toNat) (fun V => ⟨.tup [.agg [u64 (tot s s.n.toNat), .sq 2 0 0 4 s.n.toNat .own], i64 0], hpG (gAt s now) ++ [(2, .row 0 s.n.toNat s.n.toNat 4 (lrow (gAt s now) V) 81)], 3⟩) := by
  have hn0 := hs.n0
  have hn1 := hs.n1
  refine hcx_of_run Try.func21 rfl (fun B hB hK hpin => ?_)
  have hF0 : Fz B K M0 B K := .refl hB hK
  refine goW hB [(36, 10)] 3000 rfl (by simp [conj, Fits_i64, isBo4, isPt23, isIf20] <;> omega) ?_
  refine run_ff (by have := hs.n0; simp <;> omega) ?_
  refine goW hB [(40, 14)] 3000 rfl (by simp [conj, Fits_i64, isBo4, isPt23, isIf20] <;> omega) ?_
  refine run_tt (by simp <;> omega) ?_
  refine goW hB [(40, 16)] 3000 rfl (by simp [conj, Fits_i64, isBo4, isPt23, isIf20] <;> omega) ?_
  refine run_tt (by simp <;> omega) ?_
  refine goW hB [] 140 rfl (by simp [conj, Fits_i64, isBo4, isPt23, isIf20] <;> omega) ?_
  refine run_to hpin [0, 1, 2, 3, 6] (nx' := 5) (rest' := []) (sl' := [(6, i64 (((0 : Nat) : Int) + 1)), (5, .ptr 3 0), (4, .ptr 2 0), (0, .ptr 0 0)]) (hp' := hpL (gAt s now) 0 (fun _ => .slice none 0 0)) rfl rfl ?_ ?_
  · simp [conj, less_rfl, ren_rG, renR_rG, tot]
  refine run_invX (ι := Nat × (Nat → Value)) hF0 hpin (fun z K' => (z.1 : Int) ≤ s.n ∧ MOK K' s l z.2 z.1) (fun z => (s.n - z.1).toNat) (fun z => [(6, i64 ((z.1 : Int) + 1)), (5, .ptr 3 0), (4, .ptr 2 0), (0, .ptr 0 0)]) (fun _ => []) (fun z => hpL (gAt s now) z.1 z.2) (0, fun _ => .slice none 0 0) ⟨by simp; omega, fun i h => absurd h (Nat.not_lt_zero _)⟩ ?_
  rintro ⟨i, V⟩ B1 K1 hF1 hpin1 ⟨hi, hV⟩ ih
  have hB1 := hF1.ok
  have hK1 := hF1.le
  have hi : (i : Int) ≤ s.n := hi
  simp only at ih ⊢
  refine goL hB1 rfl rfl (by simp [conj, Fits_i64]) ?_
  refine run_cond rfl (fun hh => ?_) (fun hh => ?_)
  · have hi1 : (i : Int) + 1 ≤ s.n := by simpa using hh
    refine goL hB1 rfl rfl (by simp [conj, Fits_i64]; omega) ?_
    refine run_draw0 mixed (fun t => ?_)
    refine run_drawC (M := modeU []) 1 16 rfl named hB1 (sumOk_nil _) [(11, rcSt (gAt s now) ((i : Int) + 1)), (16, rcLi (gAt s now) l ((i : Int) + 1))] ⟨⟨state_hc (gAt s now) (hs.at ht) _ ⟨by omega, hi1⟩, rfl, Nat.le_refl _⟩, ⟨list_hc (gAt s now) l hk hl _, rfl, show 2 ≤ 3 by omega⟩, trivial⟩ rfl rfl rfl rfl rfl rfl ?_ (fun t => ?_)
    · simp [conj, less_rfl, SO.Live, ren_rG, renR_rG]
      omega
    refine run_drawE rfl ?_
    refine run_freezeC (L := 16) (off := 0) (sz := 1) (m := (mem (gAt s now) ((i : Int) + 1) l).length) (ap := .own) hB1 hK1 19 i 3 rfl (by simp [appF, blt_self]) (by omega) (by omega) rfl rfl (Nat.le_refl _) (fun _ _ _ hk => by rw [renR_rowL]; exact closed_rowL _ _ _ hk) rfl (fun _ => rfl) ?_
    intro v B2 K2 hv hF2 hp2 F' hF'
    have hB2 := hF2.ok
    have e0 : ((i : Int) + 1 - 1).toNat = i := by omega
    rw [e0] at hF'
    have hrow := lrow_app (gAt s now) V i v _ _ rfl F' hF'
    have ih := ih (i + 1, fun j => if j = i then v else V j) B2 K2 (hF1.trans0 hF2 hK fun _ h => h.elim) (hpin1.fz hF2 hp2) ⟨by simp; omega, fun j hj => by
      have hj : j < i + 1 := hj
      by_cases e : j = i
      · subst e; rw [renR_rowL] at hv; simp only [if_true]; exact hv
      · simp only [if_neg e]; exact (hV j (by show j < i; omega)).mono fun b o q => hF2.old b o q (fun h => h)⟩ (by simp; omega)
    refine goL hB2 rfl rfl (by simp [conj, Fits_i64]; omega) ?_
    refine run_back ?_
    refine run_to (hpin1.fz hF2 hp2) [0, 1, 2, 3, 19] rfl rfl ?_ ih
    clear ih
    simp [conj, less_rfl, ren_rG, renR_rG, tot]
    exact fun a b ha hb => by rw [ren_lrow, hrow a b ha hb]; exact (less_rfl _).mpr trivial
  · clear ih
    have hin : i = s.n.toNat := by simp at hh; omega
    rw [← hin]
    refine goL hB1 rfl rfl (by simp [conj, isIf20]) ?_
    refine run_ff rfl ?_
    refine goL hB1 rfl rfl (by simp [conj]) ?_
    refine run_retFX hF1 hpin1 V hV [0, 1, 4] (.inl rfl) rfl rfl rfl rfl (by first | exact conj_nil | simp [conj]) (by first | exact conj_nil | simp [conj]) rfl ?_
    simp [conj, less_rfl, ren_rG, renR_rG, ren_lrow, tot_at]
end Sx
end
