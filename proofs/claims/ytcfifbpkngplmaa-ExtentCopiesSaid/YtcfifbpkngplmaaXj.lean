/- Package extent: the arms of its methods in which a condition fails. Conditions: as each theorem says. -/
import Derived.Test.YtcfifbpkngplmaaXi
set_option linter.unusedSimpArgs false
set_option linter.unusedVariables false
namespace Sx
open Go Go.Proofs
set_option maxRecDepth 100000
set_option pp.deepTerms true
set_option pp.maxSteps 10000000
set_option maxHeartbeats 4000000 in
theorem look_neg (s : XSt) (z : XZ) (hu : 0 < s.un) (id q : Int) (g0 : q < 0) : HC Try.prog 15 [.ptr 0 0, i64 id, i64 q] (hpX s z) [] 2 (fun _ : Unit => True) (fun _ => ⟨.tup [i64 0, .ff, i64 2], hpX s z, 2⟩) := by
  refine hc_of_run Try.func15 rfl (fun B hB hpin => ?_)
  refine goQ hB [(39, 11)] 3000 rfl (by first | exact conj_nil | (simp [conj, Fits_i64, isBo4, isPt23, isIf20]; done) | (simp [conj, Fits_i64, isBo4, isPt23, isIf20]; omega)) ?_
  refine run_ff (by first | (simp [g0]; done) | (simp [g0]; omega)) ?_
  refine goQ hB [(35, 10)] 3000 rfl (by first | exact conj_nil | (simp [conj, Fits_i64, isBo4, isPt23, isIf20]; done) | (simp [conj, Fits_i64, isBo4, isPt23, isIf20]; omega)) ?_
  refine run_ff (by first | (simp []; done) | (simp []; omega)) ?_
  refine goQ hB [] 3000 rfl (by first | exact conj_nil | (simp [conj, Fits_i64, isBo4, isPt23, isIf20]; done) | (simp [conj, Fits_i64, isBo4, isPt23, isIf20]; omega)) ?_
  refine run_retCX hpin () trivial [0, 1] (.inl rfl) rfl rfl rfl rfl (by first | exact conj_nil | simp [conj]) (by first | exact conj_nil | simp [conj]) rfl ?_
  simp [conj, less_rfl]
set_option maxHeartbeats 4000000 in
theorem look_lo (s : XSt) (z : XZ) (hu : 0 < s.un) (id q : Int) (g0 : 0 ≤ q) (hi : id < 1) : HC Try.prog 15 [.ptr 0 0, i64 id, i64 q] (hpX s z) [] 2 (fun _ : Unit => True) (fun _ => ⟨.tup [i64 0, .ff, i64 2], hpX s z, 2⟩) := by
  refine hc_of_run Try.func15 rfl (fun B hB hpin => ?_)
  refine goQ hB [(39, 11)] 3000 rfl (by first | exact conj_nil | (simp [conj, Fits_i64, isBo4, isPt23, isIf20]; done) | (simp [conj, Fits_i64, isBo4, isPt23, isIf20]; omega)) ?_
  refine run_tt (by first | (simp [g0]; done) | (simp [g0]; omega)) ?_
  refine goQ hB [(35, 10)] 3000 rfl (by first | exact conj_nil | (simp [conj, Fits_i64, isBo4, isPt23, isIf20]; done) | (simp [conj, Fits_i64, isBo4, isPt23, isIf20]; omega)) ?_
  refine run_ff (by first | (simp []; done) | (simp []; omega)) ?_
  refine goQ hB [(42, 17)] 3000 rfl (by first | exact conj_nil | (simp [conj, Fits_i64, isBo4, isPt23, isIf20]; done) | (simp [conj, Fits_i64, isBo4, isPt23, isIf20]; omega)) ?_
  refine run_ff (by first | (simp [hi]; done) | (simp [hi]; omega)) ?_
  refine goQ hB [(42, 19)] 3000 rfl (by first | exact conj_nil | (simp [conj, Fits_i64, isBo4, isPt23, isIf20]; done) | (simp [conj, Fits_i64, isBo4, isPt23, isIf20]; omega)) ?_
  refine run_tt (by first | (simp []; done) | (simp []; omega)) ?_
  refine goQ hB [] 3000 rfl (by first | exact conj_nil | (simp [conj, Fits_i64, isBo4, isPt23, isIf20]; done) | (simp [conj, Fits_i64, isBo4, isPt23, isIf20]; omega)) ?_
  refine run_retCX hpin () trivial [0, 1] (.inl rfl) rfl rfl rfl rfl (by first | exact conj_nil | simp [conj]) (by first | exact conj_nil | simp [conj]) rfl ?_
  simp [conj, less_rfl]
set_option maxHeartbeats 4000000 in
theorem look_hi (s : XSt) (z : XZ) (hu : 0 < s.un) (id q : Int) (g0 : 0 ≤ q) (h1 : 1 ≤ id) (hi : 1024 < id) : HC Try.prog 15 [.ptr 0 0, i64 id, i64 q] (hpX s z) [] 2 (fun _ : Unit => True) (fun _ => ⟨.tup [i64 0, .ff, i64 2], hpX s z, 2⟩) := by
  refine hc_of_run Try.func15 rfl (fun B hB hpin => ?_)
  refine goQ hB [(39, 11)] 3000 rfl (by first | exact conj_nil | (simp [conj, Fits_i64, isBo4, isPt23, isIf20]; done) | (simp [conj, Fits_i64, isBo4, isPt23, isIf20]; omega)) ?_
  refine run_tt (by first | (simp [g0]; done) | (simp [g0]; omega)) ?_
  refine goQ hB [(35, 10)] 3000 rfl (by first | exact conj_nil | (simp [conj, Fits_i64, isBo4, isPt23, isIf20]; done) | (simp [conj, Fits_i64, isBo4, isPt23, isIf20]; omega)) ?_
  refine run_ff (by first | (simp []; done) | (simp []; omega)) ?_
  refine goQ hB [(42, 17)] 3000 rfl (by first | exact conj_nil | (simp [conj, Fits_i64, isBo4, isPt23, isIf20]; done) | (simp [conj, Fits_i64, isBo4, isPt23, isIf20]; omega)) ?_
  refine run_tt (by first | (simp [h1]; done) | (simp [h1]; omega)) ?_
  refine goQ hB [(42, 19)] 3000 rfl (by first | exact conj_nil | (simp [conj, Fits_i64, isBo4, isPt23, isIf20]; done) | (simp [conj, Fits_i64, isBo4, isPt23, isIf20]; omega)) ?_
  refine run_ff (by first | (simp [hi]; done) | (simp [hi]; omega)) ?_
  refine goQ hB [] 3000 rfl (by first | exact conj_nil | (simp [conj, Fits_i64, isBo4, isPt23, isIf20]; done) | (simp [conj, Fits_i64, isBo4, isPt23, isIf20]; omega)) ?_
  refine run_retCX hpin () trivial [0, 1] (.inl rfl) rfl rfl rfl rfl (by first | exact conj_nil | simp [conj]) (by first | exact conj_nil | simp [conj]) rfl ?_
  simp [conj, less_rfl]
set_option maxHeartbeats 4000000 in
theorem look_none (s : XSt) (z : XZ) (hu : 0 < s.un) (id q : Int) (g0 : 0 ≤ q) (h1 : 1 ≤ id) (h2 : id ≤ 1024) (hh : s.h id = false) : HC Try.prog 15 [.ptr 0 0, i64 id, i64 q] (hpX s z) [] 2 (fun _ : Unit => True) (fun _ => ⟨.tup [i64 0, .ff, i64 9], hpX s z, 2⟩) := by
  refine hc_of_run Try.func15 rfl (fun B hB hpin => ?_)
  refine goQ hB [(39, 11)] 3000 rfl (by first | exact conj_nil | (simp [conj, Fits_i64, isBo4, isPt23, isIf20]; done) | (simp [conj, Fits_i64, isBo4, isPt23, isIf20]; omega)) ?_
  refine run_tt (by first | (simp [g0]; done) | (simp [g0]; omega)) ?_
  refine goQ hB [(35, 10)] 3000 rfl (by first | exact conj_nil | (simp [conj, Fits_i64, isBo4, isPt23, isIf20]; done) | (simp [conj, Fits_i64, isBo4, isPt23, isIf20]; omega)) ?_
  refine run_ff (by first | (simp []; done) | (simp []; omega)) ?_
  refine goQ hB [(42, 17)] 3000 rfl (by first | exact conj_nil | (simp [conj, Fits_i64, isBo4, isPt23, isIf20]; done) | (simp [conj, Fits_i64, isBo4, isPt23, isIf20]; omega)) ?_
  refine run_tt (by first | (simp [h1]; done) | (simp [h1]; omega)) ?_
  refine goQ hB [(42, 19)] 3000 rfl (by first | exact conj_nil | (simp [conj, Fits_i64, isBo4, isPt23, isIf20]; done) | (simp [conj, Fits_i64, isBo4, isPt23, isIf20]; omega)) ?_
  refine run_tt (by first | (simp [h2]; done) | (simp [h2]; omega)) ?_
  refine goQ hB [(42, 30)] 3000 rfl (by first | exact conj_nil | (simp [conj, Fits_i64, isBo4, isPt23, isIf20]; done) | (simp [conj, Fits_i64, isBo4, isPt23, isIf20]; omega)) ?_
  refine run_ff (by first | (simp [hh]; done) | (simp [hh]; omega)) ?_
  refine goQ hB [] 3000 rfl (by first | exact conj_nil | (simp [conj, Fits_i64, isBo4, isPt23, isIf20]; done) | (simp [conj, Fits_i64, isBo4, isPt23, isIf20]; omega)) ?_
  refine run_retCX hpin () trivial [0, 1] (.inl rfl) rfl rfl rfl rfl (by first | exact conj_nil | simp [conj]) (by first | exact conj_nil | simp [conj]) rfl ?_
  simp [conj, less_rfl]
set_option maxHeartbeats 4000000 in
theorem look_range (s : XSt) (z : XZ) (hu : 0 < s.un) (id q : Int) (g0 : 0 ≤ q) (h1 : 1 ≤ id) (h2 : id ≤ 1024) (hh : s.h id = true) (g1 : s.sz id ≤ q) : HC Try.prog 15 [.ptr 0 0, i64 id, i64 q] (hpX s z) [] 2 (fun _ : Unit => True) (fun _ => ⟨.tup [i64 0, .ff, i64 3], hpX s z, 2⟩) := by
  refine hc_of_run Try.func15 rfl (fun B hB hpin => ?_)
  refine goQ hB [(39, 11)] 3000 rfl (by first | exact conj_nil | (simp [conj, Fits_i64, isBo4, isPt23, isIf20]; done) | (simp [conj, Fits_i64, isBo4, isPt23, isIf20, hh]; omega)) ?_
  refine run_tt (by first | (simp [g0]; done) | (simp [g0]; omega)) ?_
  refine goQ hB [(35, 10)] 3000 rfl (by first | exact conj_nil | (simp [conj, Fits_i64, isBo4, isPt23, isIf20]; done) | (simp [conj, Fits_i64, isBo4, isPt23, isIf20, hh]; omega)) ?_
  refine run_ff (by first | (simp []; done) | (simp []; omega)) ?_
  refine goQ hB [(42, 17)] 3000 rfl (by first | exact conj_nil | (simp [conj, Fits_i64, isBo4, isPt23, isIf20]; done) | (simp [conj, Fits_i64, isBo4, isPt23, isIf20, hh]; omega)) ?_
  refine run_tt (by first | (simp [h1]; done) | (simp [h1]; omega)) ?_
  refine goQ hB [(42, 19)] 3000 rfl (by first | exact conj_nil | (simp [conj, Fits_i64, isBo4, isPt23, isIf20]; done) | (simp [conj, Fits_i64, isBo4, isPt23, isIf20, hh]; omega)) ?_
  refine run_tt (by first | (simp [h2]; done) | (simp [h2]; omega)) ?_
  refine goQ hB [(42, 30)] 3000 rfl (by first | exact conj_nil | (simp [conj, Fits_i64, isBo4, isPt23, isIf20]; done) | (simp [conj, Fits_i64, isBo4, isPt23, isIf20, hh]; omega)) ?_
  refine run_tt (by first | (simp [hh]; done) | (simp [hh]; omega)) ?_
  refine goQ hB [(39, 17)] 3000 rfl (by first | exact conj_nil | (simp [conj, Fits_i64, isBo4, isPt23, isIf20]; done) | (simp [conj, Fits_i64, isBo4, isPt23, isIf20, hh]; omega)) ?_
  refine run_ff (by first | (simp [g1, hh]; done) | (simp [g1, hh]; omega)) ?_
  refine goQ hB [] 3000 rfl (by first | exact conj_nil | (simp [conj, Fits_i64, isBo4, isPt23, isIf20]; done) | (simp [conj, Fits_i64, isBo4, isPt23, isIf20, hh]; omega)) ?_
  refine run_retCX hpin () trivial [0, 1] (.inl rfl) rfl rfl rfl rfl (by first | exact conj_nil | simp [conj]) (by first | exact conj_nil | simp [conj]) rfl ?_
  simp [conj, less_rfl]
set_option maxHeartbeats 4000000 in
theorem place_neg (s : XSt) (z : XZ) (hu : 0 < s.un) (id q : Int) (g0 : q < 0) : HC Try.prog 18 [.ptr 0 0, i64 id, i64 q] (hpX s z) [] 2 (fun _ : Unit => True) (fun _ => ⟨.tup [i64 0, .ff, i64 2], hpX s z, 2⟩) := by
  refine hc_of_run Try.func18 rfl (fun B hB hpin => ?_)
  refine goQ hB [(39, 11)] 3000 rfl (by first | exact conj_nil | (simp [conj, Fits_i64, isBo4, isPt23, isIf20]; done) | (simp [conj, Fits_i64, isBo4, isPt23, isIf20]; omega)) ?_
  refine run_ff (by first | (simp [g0]; done) | (simp [g0]; omega)) ?_
  refine goQ hB [(35, 10)] 3000 rfl (by first | exact conj_nil | (simp [conj, Fits_i64, isBo4, isPt23, isIf20]; done) | (simp [conj, Fits_i64, isBo4, isPt23, isIf20]; omega)) ?_
  refine run_ff (by first | (simp []; done) | (simp []; omega)) ?_
  refine goQ hB [] 3000 rfl (by first | exact conj_nil | (simp [conj, Fits_i64, isBo4, isPt23, isIf20]; done) | (simp [conj, Fits_i64, isBo4, isPt23, isIf20]; omega)) ?_
  refine run_retCX hpin () trivial [0, 1] (.inl rfl) rfl rfl rfl rfl (by first | exact conj_nil | simp [conj]) (by first | exact conj_nil | simp [conj]) rfl ?_
  simp [conj, less_rfl]
set_option maxHeartbeats 4000000 in
theorem place_lo (s : XSt) (z : XZ) (hu : 0 < s.un) (id q : Int) (g0 : 0 ≤ q) (hi : id < 1) : HC Try.prog 18 [.ptr 0 0, i64 id, i64 q] (hpX s z) [] 2 (fun _ : Unit => True) (fun _ => ⟨.tup [i64 0, .ff, i64 2], hpX s z, 2⟩) := by
  refine hc_of_run Try.func18 rfl (fun B hB hpin => ?_)
  refine goQ hB [(39, 11)] 3000 rfl (by first | exact conj_nil | (simp [conj, Fits_i64, isBo4, isPt23, isIf20]; done) | (simp [conj, Fits_i64, isBo4, isPt23, isIf20]; omega)) ?_
  refine run_tt (by first | (simp [g0]; done) | (simp [g0]; omega)) ?_
  refine goQ hB [(35, 10)] 3000 rfl (by first | exact conj_nil | (simp [conj, Fits_i64, isBo4, isPt23, isIf20]; done) | (simp [conj, Fits_i64, isBo4, isPt23, isIf20]; omega)) ?_
  refine run_ff (by first | (simp []; done) | (simp []; omega)) ?_
  refine goQ hB [(42, 17)] 3000 rfl (by first | exact conj_nil | (simp [conj, Fits_i64, isBo4, isPt23, isIf20]; done) | (simp [conj, Fits_i64, isBo4, isPt23, isIf20]; omega)) ?_
  refine run_ff (by first | (simp [hi]; done) | (simp [hi]; omega)) ?_
  refine goQ hB [(42, 19)] 3000 rfl (by first | exact conj_nil | (simp [conj, Fits_i64, isBo4, isPt23, isIf20]; done) | (simp [conj, Fits_i64, isBo4, isPt23, isIf20]; omega)) ?_
  refine run_tt (by first | (simp []; done) | (simp []; omega)) ?_
  refine goQ hB [] 3000 rfl (by first | exact conj_nil | (simp [conj, Fits_i64, isBo4, isPt23, isIf20]; done) | (simp [conj, Fits_i64, isBo4, isPt23, isIf20]; omega)) ?_
  refine run_retCX hpin () trivial [0, 1] (.inl rfl) rfl rfl rfl rfl (by first | exact conj_nil | simp [conj]) (by first | exact conj_nil | simp [conj]) rfl ?_
  simp [conj, less_rfl]
set_option maxHeartbeats 4000000 in
theorem place_hi (s : XSt) (z : XZ) (hu : 0 < s.un) (id q : Int) (g0 : 0 ≤ q) (h1 : 1 ≤ id) (hi : 1024 < id) : HC Try.prog 18 [.ptr 0 0, i64 id, i64 q] (hpX s z) [] 2 (fun _ : Unit => True) (fun _ => ⟨.tup [i64 0, .ff, i64 2], hpX s z, 2⟩) := by
  refine hc_of_run Try.func18 rfl (fun B hB hpin => ?_)
  refine goQ hB [(39, 11)] 3000 rfl (by first | exact conj_nil | (simp [conj, Fits_i64, isBo4, isPt23, isIf20]; done) | (simp [conj, Fits_i64, isBo4, isPt23, isIf20]; omega)) ?_
  refine run_tt (by first | (simp [g0]; done) | (simp [g0]; omega)) ?_
  refine goQ hB [(35, 10)] 3000 rfl (by first | exact conj_nil | (simp [conj, Fits_i64, isBo4, isPt23, isIf20]; done) | (simp [conj, Fits_i64, isBo4, isPt23, isIf20]; omega)) ?_
  refine run_ff (by first | (simp []; done) | (simp []; omega)) ?_
  refine goQ hB [(42, 17)] 3000 rfl (by first | exact conj_nil | (simp [conj, Fits_i64, isBo4, isPt23, isIf20]; done) | (simp [conj, Fits_i64, isBo4, isPt23, isIf20]; omega)) ?_
  refine run_tt (by first | (simp [h1]; done) | (simp [h1]; omega)) ?_
  refine goQ hB [(42, 19)] 3000 rfl (by first | exact conj_nil | (simp [conj, Fits_i64, isBo4, isPt23, isIf20]; done) | (simp [conj, Fits_i64, isBo4, isPt23, isIf20]; omega)) ?_
  refine run_ff (by first | (simp [hi]; done) | (simp [hi]; omega)) ?_
  refine goQ hB [] 3000 rfl (by first | exact conj_nil | (simp [conj, Fits_i64, isBo4, isPt23, isIf20]; done) | (simp [conj, Fits_i64, isBo4, isPt23, isIf20]; omega)) ?_
  refine run_retCX hpin () trivial [0, 1] (.inl rfl) rfl rfl rfl rfl (by first | exact conj_nil | simp [conj]) (by first | exact conj_nil | simp [conj]) rfl ?_
  simp [conj, less_rfl]
set_option maxHeartbeats 4000000 in
theorem place_none (s : XSt) (z : XZ) (hu : 0 < s.un) (id q : Int) (g0 : 0 ≤ q) (h1 : 1 ≤ id) (h2 : id ≤ 1024) (hh : s.h id = false) : HC Try.prog 18 [.ptr 0 0, i64 id, i64 q] (hpX s z) [] 2 (fun _ : Unit => True) (fun _ => ⟨.tup [i64 0, .ff, i64 9], hpX s z, 2⟩) := by
  refine hc_of_run Try.func18 rfl (fun B hB hpin => ?_)
  refine goQ hB [(39, 11)] 3000 rfl (by first | exact conj_nil | (simp [conj, Fits_i64, isBo4, isPt23, isIf20]; done) | (simp [conj, Fits_i64, isBo4, isPt23, isIf20]; omega)) ?_
  refine run_tt (by first | (simp [g0]; done) | (simp [g0]; omega)) ?_
  refine goQ hB [(35, 10)] 3000 rfl (by first | exact conj_nil | (simp [conj, Fits_i64, isBo4, isPt23, isIf20]; done) | (simp [conj, Fits_i64, isBo4, isPt23, isIf20]; omega)) ?_
  refine run_ff (by first | (simp []; done) | (simp []; omega)) ?_
  refine goQ hB [(42, 17)] 3000 rfl (by first | exact conj_nil | (simp [conj, Fits_i64, isBo4, isPt23, isIf20]; done) | (simp [conj, Fits_i64, isBo4, isPt23, isIf20]; omega)) ?_
  refine run_tt (by first | (simp [h1]; done) | (simp [h1]; omega)) ?_
  refine goQ hB [(42, 19)] 3000 rfl (by first | exact conj_nil | (simp [conj, Fits_i64, isBo4, isPt23, isIf20]; done) | (simp [conj, Fits_i64, isBo4, isPt23, isIf20]; omega)) ?_
  refine run_tt (by first | (simp [h2]; done) | (simp [h2]; omega)) ?_
  refine goQ hB [(42, 30)] 3000 rfl (by first | exact conj_nil | (simp [conj, Fits_i64, isBo4, isPt23, isIf20]; done) | (simp [conj, Fits_i64, isBo4, isPt23, isIf20]; omega)) ?_
  refine run_ff (by first | (simp [hh]; done) | (simp [hh]; omega)) ?_
  refine goQ hB [] 3000 rfl (by first | exact conj_nil | (simp [conj, Fits_i64, isBo4, isPt23, isIf20]; done) | (simp [conj, Fits_i64, isBo4, isPt23, isIf20]; omega)) ?_
  refine run_retCX hpin () trivial [0, 1] (.inl rfl) rfl rfl rfl rfl (by first | exact conj_nil | simp [conj]) (by first | exact conj_nil | simp [conj]) rfl ?_
  simp [conj, less_rfl]
set_option maxHeartbeats 4000000 in
theorem place_range (s : XSt) (z : XZ) (hu : 0 < s.un) (id q : Int) (g0 : 0 ≤ q) (h1 : 1 ≤ id) (h2 : id ≤ 1024) (hh : s.h id = true) (g1 : s.sz id ≤ q) : HC Try.prog 18 [.ptr 0 0, i64 id, i64 q] (hpX s z) [] 2 (fun _ : Unit => True) (fun _ => ⟨.tup [i64 0, .ff, i64 3], hpX s z, 2⟩) := by
  refine hc_of_run Try.func18 rfl (fun B hB hpin => ?_)
  refine goQ hB [(39, 11)] 3000 rfl (by first | exact conj_nil | (simp [conj, Fits_i64, isBo4, isPt23, isIf20]; done) | (simp [conj, Fits_i64, isBo4, isPt23, isIf20, hh]; omega)) ?_
  refine run_tt (by first | (simp [g0]; done) | (simp [g0]; omega)) ?_
  refine goQ hB [(35, 10)] 3000 rfl (by first | exact conj_nil | (simp [conj, Fits_i64, isBo4, isPt23, isIf20]; done) | (simp [conj, Fits_i64, isBo4, isPt23, isIf20, hh]; omega)) ?_
  refine run_ff (by first | (simp []; done) | (simp []; omega)) ?_
  refine goQ hB [(42, 17)] 3000 rfl (by first | exact conj_nil | (simp [conj, Fits_i64, isBo4, isPt23, isIf20]; done) | (simp [conj, Fits_i64, isBo4, isPt23, isIf20, hh]; omega)) ?_
  refine run_tt (by first | (simp [h1]; done) | (simp [h1]; omega)) ?_
  refine goQ hB [(42, 19)] 3000 rfl (by first | exact conj_nil | (simp [conj, Fits_i64, isBo4, isPt23, isIf20]; done) | (simp [conj, Fits_i64, isBo4, isPt23, isIf20, hh]; omega)) ?_
  refine run_tt (by first | (simp [h2]; done) | (simp [h2]; omega)) ?_
  refine goQ hB [(42, 30)] 3000 rfl (by first | exact conj_nil | (simp [conj, Fits_i64, isBo4, isPt23, isIf20]; done) | (simp [conj, Fits_i64, isBo4, isPt23, isIf20, hh]; omega)) ?_
  refine run_tt (by first | (simp [hh]; done) | (simp [hh]; omega)) ?_
  refine goQ hB [(39, 17)] 3000 rfl (by first | exact conj_nil | (simp [conj, Fits_i64, isBo4, isPt23, isIf20]; done) | (simp [conj, Fits_i64, isBo4, isPt23, isIf20, hh]; omega)) ?_
  refine run_ff (by first | (simp [g1, hh]; done) | (simp [g1, hh]; omega)) ?_
  refine goQ hB [] 3000 rfl (by first | exact conj_nil | (simp [conj, Fits_i64, isBo4, isPt23, isIf20]; done) | (simp [conj, Fits_i64, isBo4, isPt23, isIf20, hh]; omega)) ?_
  refine run_retCX hpin () trivial [0, 1] (.inl rfl) rfl rfl rfl rfl (by first | exact conj_nil | simp [conj]) (by first | exact conj_nil | simp [conj]) rfl ?_
  simp [conj, less_rfl]
set_option maxHeartbeats 4000000 in
theorem size_lo (s : XSt) (z : XZ) (hu : 0 < s.un) (id : Int)  (hi : id < 1) : HC Try.prog 27 [.ptr 0 0, i64 id] (hpX s z) [] 2 (fun _ : Unit => True) (fun _ => ⟨.tup [i64 0, i64 2], hpX s z, 2⟩) := by
  refine hc_of_run Try.func27 rfl (fun B hB hpin => ?_)
  refine goQ hB [(35, 10)] 3000 rfl (by first | exact conj_nil | (simp [conj, Fits_i64, isBo4, isPt23, isIf20]; done) | (simp [conj, Fits_i64, isBo4, isPt23, isIf20]; omega)) ?_
  refine run_ff (by first | (simp []; done) | (simp []; omega)) ?_
  refine goQ hB [(42, 17)] 3000 rfl (by first | exact conj_nil | (simp [conj, Fits_i64, isBo4, isPt23, isIf20]; done) | (simp [conj, Fits_i64, isBo4, isPt23, isIf20]; omega)) ?_
  refine run_ff (by first | (simp [hi]; done) | (simp [hi]; omega)) ?_
  refine goQ hB [(42, 19)] 3000 rfl (by first | exact conj_nil | (simp [conj, Fits_i64, isBo4, isPt23, isIf20]; done) | (simp [conj, Fits_i64, isBo4, isPt23, isIf20]; omega)) ?_
  refine run_tt (by first | (simp []; done) | (simp []; omega)) ?_
  refine goQ hB [] 3000 rfl (by first | exact conj_nil | (simp [conj, Fits_i64, isBo4, isPt23, isIf20]; done) | (simp [conj, Fits_i64, isBo4, isPt23, isIf20]; omega)) ?_
  refine run_retCX hpin () trivial [0, 1] (.inl rfl) rfl rfl rfl rfl (by first | exact conj_nil | simp [conj]) (by first | exact conj_nil | simp [conj]) rfl ?_
  simp [conj, less_rfl]
set_option maxHeartbeats 4000000 in
theorem size_hi (s : XSt) (z : XZ) (hu : 0 < s.un) (id : Int)  (h1 : 1 ≤ id) (hi : 1024 < id) : HC Try.prog 27 [.ptr 0 0, i64 id] (hpX s z) [] 2 (fun _ : Unit => True) (fun _ => ⟨.tup [i64 0, i64 2], hpX s z, 2⟩) := by
  refine hc_of_run Try.func27 rfl (fun B hB hpin => ?_)
  refine goQ hB [(35, 10)] 3000 rfl (by first | exact conj_nil | (simp [conj, Fits_i64, isBo4, isPt23, isIf20]; done) | (simp [conj, Fits_i64, isBo4, isPt23, isIf20]; omega)) ?_
  refine run_ff (by first | (simp []; done) | (simp []; omega)) ?_
  refine goQ hB [(42, 17)] 3000 rfl (by first | exact conj_nil | (simp [conj, Fits_i64, isBo4, isPt23, isIf20]; done) | (simp [conj, Fits_i64, isBo4, isPt23, isIf20]; omega)) ?_
  refine run_tt (by first | (simp [h1]; done) | (simp [h1]; omega)) ?_
  refine goQ hB [(42, 19)] 3000 rfl (by first | exact conj_nil | (simp [conj, Fits_i64, isBo4, isPt23, isIf20]; done) | (simp [conj, Fits_i64, isBo4, isPt23, isIf20]; omega)) ?_
  refine run_ff (by first | (simp [hi]; done) | (simp [hi]; omega)) ?_
  refine goQ hB [] 3000 rfl (by first | exact conj_nil | (simp [conj, Fits_i64, isBo4, isPt23, isIf20]; done) | (simp [conj, Fits_i64, isBo4, isPt23, isIf20]; omega)) ?_
  refine run_retCX hpin () trivial [0, 1] (.inl rfl) rfl rfl rfl rfl (by first | exact conj_nil | simp [conj]) (by first | exact conj_nil | simp [conj]) rfl ?_
  simp [conj, less_rfl]
set_option maxHeartbeats 4000000 in
theorem size_none (s : XSt) (z : XZ) (hu : 0 < s.un) (id : Int)  (h1 : 1 ≤ id) (h2 : id ≤ 1024) (hh : s.h id = false) : HC Try.prog 27 [.ptr 0 0, i64 id] (hpX s z) [] 2 (fun _ : Unit => True) (fun _ => ⟨.tup [i64 0, i64 9], hpX s z, 2⟩) := by
  refine hc_of_run Try.func27 rfl (fun B hB hpin => ?_)
  refine goQ hB [(35, 10)] 3000 rfl (by first | exact conj_nil | (simp [conj, Fits_i64, isBo4, isPt23, isIf20]; done) | (simp [conj, Fits_i64, isBo4, isPt23, isIf20]; omega)) ?_
  refine run_ff (by first | (simp []; done) | (simp []; omega)) ?_
  refine goQ hB [(42, 17)] 3000 rfl (by first | exact conj_nil | (simp [conj, Fits_i64, isBo4, isPt23, isIf20]; done) | (simp [conj, Fits_i64, isBo4, isPt23, isIf20]; omega)) ?_
  refine run_tt (by first | (simp [h1]; done) | (simp [h1]; omega)) ?_
  refine goQ hB [(42, 19)] 3000 rfl (by first | exact conj_nil | (simp [conj, Fits_i64, isBo4, isPt23, isIf20]; done) | (simp [conj, Fits_i64, isBo4, isPt23, isIf20]; omega)) ?_
  refine run_tt (by first | (simp [h2]; done) | (simp [h2]; omega)) ?_
  refine goQ hB [(42, 30)] 3000 rfl (by first | exact conj_nil | (simp [conj, Fits_i64, isBo4, isPt23, isIf20]; done) | (simp [conj, Fits_i64, isBo4, isPt23, isIf20]; omega)) ?_
  refine run_ff (by first | (simp [hh]; done) | (simp [hh]; omega)) ?_
  refine goQ hB [] 3000 rfl (by first | exact conj_nil | (simp [conj, Fits_i64, isBo4, isPt23, isIf20]; done) | (simp [conj, Fits_i64, isBo4, isPt23, isIf20]; omega)) ?_
  refine run_retCX hpin () trivial [0, 1] (.inl rfl) rfl rfl rfl rfl (by first | exact conj_nil | simp [conj]) (by first | exact conj_nil | simp [conj]) rfl ?_
  simp [conj, less_rfl]
set_option maxHeartbeats 4000000 in
theorem used_lo (s : XSt) (z : XZ) (hu : 0 < s.un) (id : Int)  (hi : id < 1) : HC Try.prog 20 [.ptr 0 0, i64 id] (hpX s z) [] 2 (fun _ : Unit => True) (fun _ => ⟨.tup [i64 0, i64 2], hpX s z, 2⟩) := by
  refine hc_of_run Try.func20 rfl (fun B hB hpin => ?_)
  refine goQ hB [(35, 10)] 3000 rfl (by first | exact conj_nil | (simp [conj, Fits_i64, isBo4, isPt23, isIf20]; done) | (simp [conj, Fits_i64, isBo4, isPt23, isIf20]; omega)) ?_
  refine run_ff (by first | (simp []; done) | (simp []; omega)) ?_
  refine goQ hB [(42, 17)] 3000 rfl (by first | exact conj_nil | (simp [conj, Fits_i64, isBo4, isPt23, isIf20]; done) | (simp [conj, Fits_i64, isBo4, isPt23, isIf20]; omega)) ?_
  refine run_ff (by first | (simp [hi]; done) | (simp [hi]; omega)) ?_
  refine goQ hB [(42, 19)] 3000 rfl (by first | exact conj_nil | (simp [conj, Fits_i64, isBo4, isPt23, isIf20]; done) | (simp [conj, Fits_i64, isBo4, isPt23, isIf20]; omega)) ?_
  refine run_tt (by first | (simp []; done) | (simp []; omega)) ?_
  refine goQ hB [] 3000 rfl (by first | exact conj_nil | (simp [conj, Fits_i64, isBo4, isPt23, isIf20]; done) | (simp [conj, Fits_i64, isBo4, isPt23, isIf20]; omega)) ?_
  refine run_retCX hpin () trivial [0, 1] (.inl rfl) rfl rfl rfl rfl (by first | exact conj_nil | simp [conj]) (by first | exact conj_nil | simp [conj]) rfl ?_
  simp [conj, less_rfl]
set_option maxHeartbeats 4000000 in
theorem used_hi (s : XSt) (z : XZ) (hu : 0 < s.un) (id : Int)  (h1 : 1 ≤ id) (hi : 1024 < id) : HC Try.prog 20 [.ptr 0 0, i64 id] (hpX s z) [] 2 (fun _ : Unit => True) (fun _ => ⟨.tup [i64 0, i64 2], hpX s z, 2⟩) := by
  refine hc_of_run Try.func20 rfl (fun B hB hpin => ?_)
  refine goQ hB [(35, 10)] 3000 rfl (by first | exact conj_nil | (simp [conj, Fits_i64, isBo4, isPt23, isIf20]; done) | (simp [conj, Fits_i64, isBo4, isPt23, isIf20]; omega)) ?_
  refine run_ff (by first | (simp []; done) | (simp []; omega)) ?_
  refine goQ hB [(42, 17)] 3000 rfl (by first | exact conj_nil | (simp [conj, Fits_i64, isBo4, isPt23, isIf20]; done) | (simp [conj, Fits_i64, isBo4, isPt23, isIf20]; omega)) ?_
  refine run_tt (by first | (simp [h1]; done) | (simp [h1]; omega)) ?_
  refine goQ hB [(42, 19)] 3000 rfl (by first | exact conj_nil | (simp [conj, Fits_i64, isBo4, isPt23, isIf20]; done) | (simp [conj, Fits_i64, isBo4, isPt23, isIf20]; omega)) ?_
  refine run_ff (by first | (simp [hi]; done) | (simp [hi]; omega)) ?_
  refine goQ hB [] 3000 rfl (by first | exact conj_nil | (simp [conj, Fits_i64, isBo4, isPt23, isIf20]; done) | (simp [conj, Fits_i64, isBo4, isPt23, isIf20]; omega)) ?_
  refine run_retCX hpin () trivial [0, 1] (.inl rfl) rfl rfl rfl rfl (by first | exact conj_nil | simp [conj]) (by first | exact conj_nil | simp [conj]) rfl ?_
  simp [conj, less_rfl]
set_option maxHeartbeats 4000000 in
theorem used_none (s : XSt) (z : XZ) (hu : 0 < s.un) (id : Int)  (h1 : 1 ≤ id) (h2 : id ≤ 1024) (hh : s.h id = false) : HC Try.prog 20 [.ptr 0 0, i64 id] (hpX s z) [] 2 (fun _ : Unit => True) (fun _ => ⟨.tup [i64 0, i64 9], hpX s z, 2⟩) := by
  refine hc_of_run Try.func20 rfl (fun B hB hpin => ?_)
  refine goQ hB [(35, 10)] 3000 rfl (by first | exact conj_nil | (simp [conj, Fits_i64, isBo4, isPt23, isIf20]; done) | (simp [conj, Fits_i64, isBo4, isPt23, isIf20]; omega)) ?_
  refine run_ff (by first | (simp []; done) | (simp []; omega)) ?_
  refine goQ hB [(42, 17)] 3000 rfl (by first | exact conj_nil | (simp [conj, Fits_i64, isBo4, isPt23, isIf20]; done) | (simp [conj, Fits_i64, isBo4, isPt23, isIf20]; omega)) ?_
  refine run_tt (by first | (simp [h1]; done) | (simp [h1]; omega)) ?_
  refine goQ hB [(42, 19)] 3000 rfl (by first | exact conj_nil | (simp [conj, Fits_i64, isBo4, isPt23, isIf20]; done) | (simp [conj, Fits_i64, isBo4, isPt23, isIf20]; omega)) ?_
  refine run_tt (by first | (simp [h2]; done) | (simp [h2]; omega)) ?_
  refine goQ hB [(42, 30)] 3000 rfl (by first | exact conj_nil | (simp [conj, Fits_i64, isBo4, isPt23, isIf20]; done) | (simp [conj, Fits_i64, isBo4, isPt23, isIf20]; omega)) ?_
  refine run_ff (by first | (simp [hh]; done) | (simp [hh]; omega)) ?_
  refine goQ hB [] 3000 rfl (by first | exact conj_nil | (simp [conj, Fits_i64, isBo4, isPt23, isIf20]; done) | (simp [conj, Fits_i64, isBo4, isPt23, isIf20]; omega)) ?_
  refine run_retCX hpin () trivial [0, 1] (.inl rfl) rfl rfl rfl rfl (by first | exact conj_nil | simp [conj]) (by first | exact conj_nil | simp [conj]) rfl ?_
  simp [conj, less_rfl]
set_option maxHeartbeats 4000000 in
theorem delete_lo (s : XSt) (z : XZ) (hu : 0 < s.un) (id : Int)  (hi : id < 1) : HC Try.prog 16 [.ptr 0 0, i64 id] (hpX s z) [] 2 (fun _ : Unit => True) (fun _ => ⟨.tup [.nilsl, i64 2], hpX s z, 2⟩) := by
  refine hc_of_run Try.func16 rfl (fun B hB hpin => ?_)
  refine goQ hB [(35, 10)] 3000 rfl (by first | exact conj_nil | (simp [conj, Fits_i64, isBo4, isPt23, isIf20]; done) | (simp [conj, Fits_i64, isBo4, isPt23, isIf20]; omega)) ?_
  refine run_ff (by first | (simp []; done) | (simp []; omega)) ?_
  refine goQ hB [(42, 17)] 3000 rfl (by first | exact conj_nil | (simp [conj, Fits_i64, isBo4, isPt23, isIf20]; done) | (simp [conj, Fits_i64, isBo4, isPt23, isIf20]; omega)) ?_
  refine run_ff (by first | (simp [hi]; done) | (simp [hi]; omega)) ?_
  refine goQ hB [(42, 19)] 3000 rfl (by first | exact conj_nil | (simp [conj, Fits_i64, isBo4, isPt23, isIf20]; done) | (simp [conj, Fits_i64, isBo4, isPt23, isIf20]; omega)) ?_
  refine run_tt (by first | (simp []; done) | (simp []; omega)) ?_
  refine goQ hB [] 3000 rfl (by first | exact conj_nil | (simp [conj, Fits_i64, isBo4, isPt23, isIf20]; done) | (simp [conj, Fits_i64, isBo4, isPt23, isIf20]; omega)) ?_
  refine run_retCX hpin () trivial [0, 1] (.inl rfl) rfl rfl rfl rfl (by first | exact conj_nil | simp [conj]) (by first | exact conj_nil | simp [conj]) rfl ?_
  simp [conj, less_rfl]
set_option maxHeartbeats 4000000 in
theorem delete_hi (s : XSt) (z : XZ) (hu : 0 < s.un) (id : Int)  (h1 : 1 ≤ id) (hi : 1024 < id) : HC Try.prog 16 [.ptr 0 0, i64 id] (hpX s z) [] 2 (fun _ : Unit => True) (fun _ => ⟨.tup [.nilsl, i64 2], hpX s z, 2⟩) := by
  refine hc_of_run Try.func16 rfl (fun B hB hpin => ?_)
  refine goQ hB [(35, 10)] 3000 rfl (by first | exact conj_nil | (simp [conj, Fits_i64, isBo4, isPt23, isIf20]; done) | (simp [conj, Fits_i64, isBo4, isPt23, isIf20]; omega)) ?_
  refine run_ff (by first | (simp []; done) | (simp []; omega)) ?_
  refine goQ hB [(42, 17)] 3000 rfl (by first | exact conj_nil | (simp [conj, Fits_i64, isBo4, isPt23, isIf20]; done) | (simp [conj, Fits_i64, isBo4, isPt23, isIf20]; omega)) ?_
  refine run_tt (by first | (simp [h1]; done) | (simp [h1]; omega)) ?_
  refine goQ hB [(42, 19)] 3000 rfl (by first | exact conj_nil | (simp [conj, Fits_i64, isBo4, isPt23, isIf20]; done) | (simp [conj, Fits_i64, isBo4, isPt23, isIf20]; omega)) ?_
  refine run_ff (by first | (simp [hi]; done) | (simp [hi]; omega)) ?_
  refine goQ hB [] 3000 rfl (by first | exact conj_nil | (simp [conj, Fits_i64, isBo4, isPt23, isIf20]; done) | (simp [conj, Fits_i64, isBo4, isPt23, isIf20]; omega)) ?_
  refine run_retCX hpin () trivial [0, 1] (.inl rfl) rfl rfl rfl rfl (by first | exact conj_nil | simp [conj]) (by first | exact conj_nil | simp [conj]) rfl ?_
  simp [conj, less_rfl]
set_option maxHeartbeats 4000000 in
theorem delete_none (s : XSt) (z : XZ) (hu : 0 < s.un) (id : Int)  (h1 : 1 ≤ id) (h2 : id ≤ 1024) (hh : s.h id = false) : HC Try.prog 16 [.ptr 0 0, i64 id] (hpX s z) [] 2 (fun _ : Unit => True) (fun _ => ⟨.tup [.nilsl, i64 9], hpX s z, 2⟩) := by
  refine hc_of_run Try.func16 rfl (fun B hB hpin => ?_)
  refine goQ hB [(35, 10)] 3000 rfl (by first | exact conj_nil | (simp [conj, Fits_i64, isBo4, isPt23, isIf20]; done) | (simp [conj, Fits_i64, isBo4, isPt23, isIf20]; omega)) ?_
  refine run_ff (by first | (simp []; done) | (simp []; omega)) ?_
  refine goQ hB [(42, 17)] 3000 rfl (by first | exact conj_nil | (simp [conj, Fits_i64, isBo4, isPt23, isIf20]; done) | (simp [conj, Fits_i64, isBo4, isPt23, isIf20]; omega)) ?_
  refine run_tt (by first | (simp [h1]; done) | (simp [h1]; omega)) ?_
  refine goQ hB [(42, 19)] 3000 rfl (by first | exact conj_nil | (simp [conj, Fits_i64, isBo4, isPt23, isIf20]; done) | (simp [conj, Fits_i64, isBo4, isPt23, isIf20]; omega)) ?_
  refine run_tt (by first | (simp [h2]; done) | (simp [h2]; omega)) ?_
  refine goQ hB [(42, 30)] 3000 rfl (by first | exact conj_nil | (simp [conj, Fits_i64, isBo4, isPt23, isIf20]; done) | (simp [conj, Fits_i64, isBo4, isPt23, isIf20]; omega)) ?_
  refine run_ff (by first | (simp [hh]; done) | (simp [hh]; omega)) ?_
  refine goQ hB [] 3000 rfl (by first | exact conj_nil | (simp [conj, Fits_i64, isBo4, isPt23, isIf20]; done) | (simp [conj, Fits_i64, isBo4, isPt23, isIf20]; omega)) ?_
  refine run_retCX hpin () trivial [0, 1] (.inl rfl) rfl rfl rfl rfl (by first | exact conj_nil | simp [conj]) (by first | exact conj_nil | simp [conj]) rfl ?_
  simp [conj, less_rfl]
set_option maxHeartbeats 4000000 in
theorem drop_n1 (s : XSt) (z : XZ) (hu : 0 < s.un) (id a m : Int) (g0 : a < 0) (g1 : 0 ≤ m) : HC Try.prog 17 [.ptr 0 0, i64 id, i64 a, i64 m] (hpX s z) [] 2 (fun _ : Unit => True) (fun _ => ⟨.tup [.nilsl, i64 2], hpX s z, 2⟩) := by
  refine hc_of_run Try.func17 rfl (fun B hB hpin => ?_)
  refine goQ hB [(17, 15)] 3000 rfl (by first | exact conj_nil | (simp [conj, Fits_i64, isBo4, isPt23, isIf20]; done) | (simp [conj, Fits_i64, isBo4, isPt23, isIf20]; omega)) ?_
  refine run_ff (by first | (simp [g0]; done) | (simp [g0]; omega)) ?_
  refine goQ hB [(17, 17)] 3000 rfl (by first | exact conj_nil | (simp [conj, Fits_i64, isBo4, isPt23, isIf20]; done) | (simp [conj, Fits_i64, isBo4, isPt23, isIf20]; omega)) ?_
  refine run_tt (by first | (simp [g1]; done) | (simp [g1]; omega)) ?_
  refine goQ hB [(35, 10)] 3000 rfl (by first | exact conj_nil | (simp [conj, Fits_i64, isBo4, isPt23, isIf20]; done) | (simp [conj, Fits_i64, isBo4, isPt23, isIf20]; omega)) ?_
  refine run_ff (by first | (simp []; done) | (simp []; omega)) ?_
  refine goQ hB [] 3000 rfl (by first | exact conj_nil | (simp [conj, Fits_i64, isBo4, isPt23, isIf20]; done) | (simp [conj, Fits_i64, isBo4, isPt23, isIf20]; omega)) ?_
  refine run_retCX hpin () trivial [0, 1] (.inl rfl) rfl rfl rfl rfl (by first | exact conj_nil | simp [conj]) (by first | exact conj_nil | simp [conj]) rfl ?_
  simp [conj, less_rfl]
set_option maxHeartbeats 4000000 in
theorem drop_n2 (s : XSt) (z : XZ) (hu : 0 < s.un) (id a m : Int) (g0 : a < 0) (g1 : m < 0) : HC Try.prog 17 [.ptr 0 0, i64 id, i64 a, i64 m] (hpX s z) [] 2 (fun _ : Unit => True) (fun _ => ⟨.tup [.nilsl, i64 2], hpX s z, 2⟩) := by
  refine hc_of_run Try.func17 rfl (fun B hB hpin => ?_)
  refine goQ hB [(17, 15)] 3000 rfl (by first | exact conj_nil | (simp [conj, Fits_i64, isBo4, isPt23, isIf20]; done) | (simp [conj, Fits_i64, isBo4, isPt23, isIf20]; omega)) ?_
  refine run_ff (by first | (simp [g0]; done) | (simp [g0]; omega)) ?_
  refine goQ hB [(17, 17)] 3000 rfl (by first | exact conj_nil | (simp [conj, Fits_i64, isBo4, isPt23, isIf20]; done) | (simp [conj, Fits_i64, isBo4, isPt23, isIf20]; omega)) ?_
  refine run_ff (by first | (simp [g1]; done) | (simp [g1]; omega)) ?_
  refine goQ hB [(35, 10)] 3000 rfl (by first | exact conj_nil | (simp [conj, Fits_i64, isBo4, isPt23, isIf20]; done) | (simp [conj, Fits_i64, isBo4, isPt23, isIf20]; omega)) ?_
  refine run_ff (by first | (simp []; done) | (simp []; omega)) ?_
  refine goQ hB [] 3000 rfl (by first | exact conj_nil | (simp [conj, Fits_i64, isBo4, isPt23, isIf20]; done) | (simp [conj, Fits_i64, isBo4, isPt23, isIf20]; omega)) ?_
  refine run_retCX hpin () trivial [0, 1] (.inl rfl) rfl rfl rfl rfl (by first | exact conj_nil | simp [conj]) (by first | exact conj_nil | simp [conj]) rfl ?_
  simp [conj, less_rfl]
set_option maxHeartbeats 4000000 in
theorem drop_n3 (s : XSt) (z : XZ) (hu : 0 < s.un) (id a m : Int) (g0 : 0 ≤ a) (g1 : m < 0) : HC Try.prog 17 [.ptr 0 0, i64 id, i64 a, i64 m] (hpX s z) [] 2 (fun _ : Unit => True) (fun _ => ⟨.tup [.nilsl, i64 2], hpX s z, 2⟩) := by
  refine hc_of_run Try.func17 rfl (fun B hB hpin => ?_)
  refine goQ hB [(17, 15)] 3000 rfl (by first | exact conj_nil | (simp [conj, Fits_i64, isBo4, isPt23, isIf20]; done) | (simp [conj, Fits_i64, isBo4, isPt23, isIf20]; omega)) ?_
  refine run_tt (by first | (simp [g0]; done) | (simp [g0]; omega)) ?_
  refine goQ hB [(17, 17)] 3000 rfl (by first | exact conj_nil | (simp [conj, Fits_i64, isBo4, isPt23, isIf20]; done) | (simp [conj, Fits_i64, isBo4, isPt23, isIf20]; omega)) ?_
  refine run_ff (by first | (simp [g1]; done) | (simp [g1]; omega)) ?_
  refine goQ hB [(35, 10)] 3000 rfl (by first | exact conj_nil | (simp [conj, Fits_i64, isBo4, isPt23, isIf20]; done) | (simp [conj, Fits_i64, isBo4, isPt23, isIf20]; omega)) ?_
  refine run_ff (by first | (simp []; done) | (simp []; omega)) ?_
  refine goQ hB [] 3000 rfl (by first | exact conj_nil | (simp [conj, Fits_i64, isBo4, isPt23, isIf20]; done) | (simp [conj, Fits_i64, isBo4, isPt23, isIf20]; omega)) ?_
  refine run_retCX hpin () trivial [0, 1] (.inl rfl) rfl rfl rfl rfl (by first | exact conj_nil | simp [conj]) (by first | exact conj_nil | simp [conj]) rfl ?_
  simp [conj, less_rfl]
set_option maxHeartbeats 4000000 in
theorem drop_lo (s : XSt) (z : XZ) (hu : 0 < s.un) (id a m : Int) (g0 : 0 ≤ a) (g1 : 0 ≤ m) (hi : id < 1) : HC Try.prog 17 [.ptr 0 0, i64 id, i64 a, i64 m] (hpX s z) [] 2 (fun _ : Unit => True) (fun _ => ⟨.tup [.nilsl, i64 2], hpX s z, 2⟩) := by
  refine hc_of_run Try.func17 rfl (fun B hB hpin => ?_)
  refine goQ hB [(17, 15)] 3000 rfl (by first | exact conj_nil | (simp [conj, Fits_i64, isBo4, isPt23, isIf20]; done) | (simp [conj, Fits_i64, isBo4, isPt23, isIf20]; omega)) ?_
  refine run_tt (by first | (simp [g0]; done) | (simp [g0]; omega)) ?_
  refine goQ hB [(17, 17)] 3000 rfl (by first | exact conj_nil | (simp [conj, Fits_i64, isBo4, isPt23, isIf20]; done) | (simp [conj, Fits_i64, isBo4, isPt23, isIf20]; omega)) ?_
  refine run_tt (by first | (simp [g1]; done) | (simp [g1]; omega)) ?_
  refine goQ hB [(35, 10)] 3000 rfl (by first | exact conj_nil | (simp [conj, Fits_i64, isBo4, isPt23, isIf20]; done) | (simp [conj, Fits_i64, isBo4, isPt23, isIf20]; omega)) ?_
  refine run_ff (by first | (simp []; done) | (simp []; omega)) ?_
  refine goQ hB [(42, 17)] 3000 rfl (by first | exact conj_nil | (simp [conj, Fits_i64, isBo4, isPt23, isIf20]; done) | (simp [conj, Fits_i64, isBo4, isPt23, isIf20]; omega)) ?_
  refine run_ff (by first | (simp [hi]; done) | (simp [hi]; omega)) ?_
  refine goQ hB [(42, 19)] 3000 rfl (by first | exact conj_nil | (simp [conj, Fits_i64, isBo4, isPt23, isIf20]; done) | (simp [conj, Fits_i64, isBo4, isPt23, isIf20]; omega)) ?_
  refine run_tt (by first | (simp []; done) | (simp []; omega)) ?_
  refine goQ hB [] 3000 rfl (by first | exact conj_nil | (simp [conj, Fits_i64, isBo4, isPt23, isIf20]; done) | (simp [conj, Fits_i64, isBo4, isPt23, isIf20]; omega)) ?_
  refine run_retCX hpin () trivial [0, 1] (.inl rfl) rfl rfl rfl rfl (by first | exact conj_nil | simp [conj]) (by first | exact conj_nil | simp [conj]) rfl ?_
  simp [conj, less_rfl]
set_option maxHeartbeats 4000000 in
theorem drop_hi (s : XSt) (z : XZ) (hu : 0 < s.un) (id a m : Int) (g0 : 0 ≤ a) (g1 : 0 ≤ m) (h1 : 1 ≤ id) (hi : 1024 < id) : HC Try.prog 17 [.ptr 0 0, i64 id, i64 a, i64 m] (hpX s z) [] 2 (fun _ : Unit => True) (fun _ => ⟨.tup [.nilsl, i64 2], hpX s z, 2⟩) := by
  refine hc_of_run Try.func17 rfl (fun B hB hpin => ?_)
  refine goQ hB [(17, 15)] 3000 rfl (by first | exact conj_nil | (simp [conj, Fits_i64, isBo4, isPt23, isIf20]; done) | (simp [conj, Fits_i64, isBo4, isPt23, isIf20]; omega)) ?_
  refine run_tt (by first | (simp [g0]; done) | (simp [g0]; omega)) ?_
  refine goQ hB [(17, 17)] 3000 rfl (by first | exact conj_nil | (simp [conj, Fits_i64, isBo4, isPt23, isIf20]; done) | (simp [conj, Fits_i64, isBo4, isPt23, isIf20]; omega)) ?_
  refine run_tt (by first | (simp [g1]; done) | (simp [g1]; omega)) ?_
  refine goQ hB [(35, 10)] 3000 rfl (by first | exact conj_nil | (simp [conj, Fits_i64, isBo4, isPt23, isIf20]; done) | (simp [conj, Fits_i64, isBo4, isPt23, isIf20]; omega)) ?_
  refine run_ff (by first | (simp []; done) | (simp []; omega)) ?_
  refine goQ hB [(42, 17)] 3000 rfl (by first | exact conj_nil | (simp [conj, Fits_i64, isBo4, isPt23, isIf20]; done) | (simp [conj, Fits_i64, isBo4, isPt23, isIf20]; omega)) ?_
  refine run_tt (by first | (simp [h1]; done) | (simp [h1]; omega)) ?_
  refine goQ hB [(42, 19)] 3000 rfl (by first | exact conj_nil | (simp [conj, Fits_i64, isBo4, isPt23, isIf20]; done) | (simp [conj, Fits_i64, isBo4, isPt23, isIf20]; omega)) ?_
  refine run_ff (by first | (simp [hi]; done) | (simp [hi]; omega)) ?_
  refine goQ hB [] 3000 rfl (by first | exact conj_nil | (simp [conj, Fits_i64, isBo4, isPt23, isIf20]; done) | (simp [conj, Fits_i64, isBo4, isPt23, isIf20]; omega)) ?_
  refine run_retCX hpin () trivial [0, 1] (.inl rfl) rfl rfl rfl rfl (by first | exact conj_nil | simp [conj]) (by first | exact conj_nil | simp [conj]) rfl ?_
  simp [conj, less_rfl]
set_option maxHeartbeats 4000000 in
theorem drop_none (s : XSt) (z : XZ) (hu : 0 < s.un) (id a m : Int) (g0 : 0 ≤ a) (g1 : 0 ≤ m) (h1 : 1 ≤ id) (h2 : id ≤ 1024) (hh : s.h id = false) : HC Try.prog 17 [.ptr 0 0, i64 id, i64 a, i64 m] (hpX s z) [] 2 (fun _ : Unit => True) (fun _ => ⟨.tup [.nilsl, i64 9], hpX s z, 2⟩) := by
  refine hc_of_run Try.func17 rfl (fun B hB hpin => ?_)
  refine goQ hB [(17, 15)] 3000 rfl (by first | exact conj_nil | (simp [conj, Fits_i64, isBo4, isPt23, isIf20]; done) | (simp [conj, Fits_i64, isBo4, isPt23, isIf20]; omega)) ?_
  refine run_tt (by first | (simp [g0]; done) | (simp [g0]; omega)) ?_
  refine goQ hB [(17, 17)] 3000 rfl (by first | exact conj_nil | (simp [conj, Fits_i64, isBo4, isPt23, isIf20]; done) | (simp [conj, Fits_i64, isBo4, isPt23, isIf20]; omega)) ?_
  refine run_tt (by first | (simp [g1]; done) | (simp [g1]; omega)) ?_
  refine goQ hB [(35, 10)] 3000 rfl (by first | exact conj_nil | (simp [conj, Fits_i64, isBo4, isPt23, isIf20]; done) | (simp [conj, Fits_i64, isBo4, isPt23, isIf20]; omega)) ?_
  refine run_ff (by first | (simp []; done) | (simp []; omega)) ?_
  refine goQ hB [(42, 17)] 3000 rfl (by first | exact conj_nil | (simp [conj, Fits_i64, isBo4, isPt23, isIf20]; done) | (simp [conj, Fits_i64, isBo4, isPt23, isIf20]; omega)) ?_
  refine run_tt (by first | (simp [h1]; done) | (simp [h1]; omega)) ?_
  refine goQ hB [(42, 19)] 3000 rfl (by first | exact conj_nil | (simp [conj, Fits_i64, isBo4, isPt23, isIf20]; done) | (simp [conj, Fits_i64, isBo4, isPt23, isIf20]; omega)) ?_
  refine run_tt (by first | (simp [h2]; done) | (simp [h2]; omega)) ?_
  refine goQ hB [(42, 30)] 3000 rfl (by first | exact conj_nil | (simp [conj, Fits_i64, isBo4, isPt23, isIf20]; done) | (simp [conj, Fits_i64, isBo4, isPt23, isIf20]; omega)) ?_
  refine run_ff (by first | (simp [hh]; done) | (simp [hh]; omega)) ?_
  refine goQ hB [] 3000 rfl (by first | exact conj_nil | (simp [conj, Fits_i64, isBo4, isPt23, isIf20]; done) | (simp [conj, Fits_i64, isBo4, isPt23, isIf20]; omega)) ?_
  refine run_retCX hpin () trivial [0, 1] (.inl rfl) rfl rfl rfl rfl (by first | exact conj_nil | simp [conj]) (by first | exact conj_nil | simp [conj]) rfl ?_
  simp [conj, less_rfl]
set_option maxHeartbeats 4000000 in
theorem drop_r1 (s : XSt) (z : XZ) (hu : 0 < s.un) (id a m : Int) (g0 : 0 ≤ a) (g1 : 0 ≤ m) (h1 : 1 ≤ id) (h2 : id ≤ 1024) (hh : s.h id = true) (hs0 : 0 ≤ s.sz id) (hs1 : s.sz id ≤ 16777216) (hm : m ≤ 9223372036854775807) (g2 : s.sz id < a) (g3 : m ≤ 0) : HC Try.prog 17 [.ptr 0 0, i64 id, i64 a, i64 m] (hpX s z) [] 2 (fun _ : Unit => True) (fun _ => ⟨.tup [.nilsl, i64 3], hpX s z, 2⟩) := by
  refine hc_of_run Try.func17 rfl (fun B hB hpin => ?_)
  refine goQ hB [(17, 15)] 3000 rfl (by first | exact conj_nil | (simp [conj, Fits_i64, isBo4, isPt23, isIf20]; done) | (simp [conj, Fits_i64, isBo4, isPt23, isIf20, hh]; omega)) ?_
  refine run_tt (by first | (simp [g0]; done) | (simp [g0]; omega)) ?_
  refine goQ hB [(17, 17)] 3000 rfl (by first | exact conj_nil | (simp [conj, Fits_i64, isBo4, isPt23, isIf20]; done) | (simp [conj, Fits_i64, isBo4, isPt23, isIf20, hh]; omega)) ?_
  refine run_tt (by first | (simp [g1]; done) | (simp [g1]; omega)) ?_
  refine goQ hB [(35, 10)] 3000 rfl (by first | exact conj_nil | (simp [conj, Fits_i64, isBo4, isPt23, isIf20]; done) | (simp [conj, Fits_i64, isBo4, isPt23, isIf20, hh]; omega)) ?_
  refine run_ff (by first | (simp []; done) | (simp []; omega)) ?_
  refine goQ hB [(42, 17)] 3000 rfl (by first | exact conj_nil | (simp [conj, Fits_i64, isBo4, isPt23, isIf20]; done) | (simp [conj, Fits_i64, isBo4, isPt23, isIf20, hh]; omega)) ?_
  refine run_tt (by first | (simp [h1]; done) | (simp [h1]; omega)) ?_
  refine goQ hB [(42, 19)] 3000 rfl (by first | exact conj_nil | (simp [conj, Fits_i64, isBo4, isPt23, isIf20]; done) | (simp [conj, Fits_i64, isBo4, isPt23, isIf20, hh]; omega)) ?_
  refine run_tt (by first | (simp [h2]; done) | (simp [h2]; omega)) ?_
  refine goQ hB [(42, 30)] 3000 rfl (by first | exact conj_nil | (simp [conj, Fits_i64, isBo4, isPt23, isIf20]; done) | (simp [conj, Fits_i64, isBo4, isPt23, isIf20, hh]; omega)) ?_
  refine run_tt (by first | (simp [hh]; done) | (simp [hh]; omega)) ?_
  refine goQ hB [(17, 23)] 3000 rfl (by first | exact conj_nil | (simp [conj, Fits_i64, isBo4, isPt23, isIf20]; done) | (simp [conj, Fits_i64, isBo4, isPt23, isIf20, hh]; omega)) ?_
  refine run_ff (by first | (simp [g2, hh]; done) | (simp [g2, hh]; omega)) ?_
  refine goQ hB [(17, 32)] 3000 rfl (by first | exact conj_nil | (simp [conj, Fits_i64, isBo4, isPt23, isIf20]; done) | (simp [conj, Fits_i64, isBo4, isPt23, isIf20, hh]; omega)) ?_
  refine run_tt (by first | (simp [g2, hh]; done) | (simp [g2, hh]; omega)) ?_
  refine goQ hB [] 3000 rfl (by first | exact conj_nil | (simp [conj, Fits_i64, isBo4, isPt23, isIf20]; done) | (simp [conj, Fits_i64, isBo4, isPt23, isIf20, hh]; omega)) ?_
  refine run_retCX hpin () trivial [0, 1] (.inl rfl) rfl rfl rfl rfl (by first | exact conj_nil | simp [conj]) (by first | exact conj_nil | simp [conj]) rfl ?_
  simp [conj, less_rfl]
set_option maxHeartbeats 4000000 in
theorem drop_r2 (s : XSt) (z : XZ) (hu : 0 < s.un) (id a m : Int) (g0 : 0 ≤ a) (g1 : 0 ≤ m) (h1 : 1 ≤ id) (h2 : id ≤ 1024) (hh : s.h id = true) (hs0 : 0 ≤ s.sz id) (hs1 : s.sz id ≤ 16777216) (hm : m ≤ 9223372036854775807) (g2 : s.sz id < a) (g3 : 0 < m) : HC Try.prog 17 [.ptr 0 0, i64 id, i64 a, i64 m] (hpX s z) [] 2 (fun _ : Unit => True) (fun _ => ⟨.tup [.nilsl, i64 3], hpX s z, 2⟩) := by
  refine hc_of_run Try.func17 rfl (fun B hB hpin => ?_)
  refine goQ hB [(17, 15)] 3000 rfl (by first | exact conj_nil | (simp [conj, Fits_i64, isBo4, isPt23, isIf20]; done) | (simp [conj, Fits_i64, isBo4, isPt23, isIf20, hh]; omega)) ?_
  refine run_tt (by first | (simp [g0]; done) | (simp [g0]; omega)) ?_
  refine goQ hB [(17, 17)] 3000 rfl (by first | exact conj_nil | (simp [conj, Fits_i64, isBo4, isPt23, isIf20]; done) | (simp [conj, Fits_i64, isBo4, isPt23, isIf20, hh]; omega)) ?_
  refine run_tt (by first | (simp [g1]; done) | (simp [g1]; omega)) ?_
  refine goQ hB [(35, 10)] 3000 rfl (by first | exact conj_nil | (simp [conj, Fits_i64, isBo4, isPt23, isIf20]; done) | (simp [conj, Fits_i64, isBo4, isPt23, isIf20, hh]; omega)) ?_
  refine run_ff (by first | (simp []; done) | (simp []; omega)) ?_
  refine goQ hB [(42, 17)] 3000 rfl (by first | exact conj_nil | (simp [conj, Fits_i64, isBo4, isPt23, isIf20]; done) | (simp [conj, Fits_i64, isBo4, isPt23, isIf20, hh]; omega)) ?_
  refine run_tt (by first | (simp [h1]; done) | (simp [h1]; omega)) ?_
  refine goQ hB [(42, 19)] 3000 rfl (by first | exact conj_nil | (simp [conj, Fits_i64, isBo4, isPt23, isIf20]; done) | (simp [conj, Fits_i64, isBo4, isPt23, isIf20, hh]; omega)) ?_
  refine run_tt (by first | (simp [h2]; done) | (simp [h2]; omega)) ?_
  refine goQ hB [(42, 30)] 3000 rfl (by first | exact conj_nil | (simp [conj, Fits_i64, isBo4, isPt23, isIf20]; done) | (simp [conj, Fits_i64, isBo4, isPt23, isIf20, hh]; omega)) ?_
  refine run_tt (by first | (simp [hh]; done) | (simp [hh]; omega)) ?_
  refine goQ hB [(17, 23)] 3000 rfl (by first | exact conj_nil | (simp [conj, Fits_i64, isBo4, isPt23, isIf20]; done) | (simp [conj, Fits_i64, isBo4, isPt23, isIf20, hh]; omega)) ?_
  refine run_ff (by first | (simp [g2, hh]; done) | (simp [g2, hh]; omega)) ?_
  refine goQ hB [(17, 32)] 3000 rfl (by first | exact conj_nil | (simp [conj, Fits_i64, isBo4, isPt23, isIf20]; done) | (simp [conj, Fits_i64, isBo4, isPt23, isIf20, hh]; omega)) ?_
  refine run_ff (by first | (simp [g2, hh]; done) | (simp [g2, hh]; omega)) ?_
  refine goQ hB [] 3000 rfl (by first | exact conj_nil | (simp [conj, Fits_i64, isBo4, isPt23, isIf20]; done) | (simp [conj, Fits_i64, isBo4, isPt23, isIf20, hh]; omega)) ?_
  refine run_retCX hpin () trivial [0, 1] (.inl rfl) rfl rfl rfl rfl (by first | exact conj_nil | simp [conj]) (by first | exact conj_nil | simp [conj]) rfl ?_
  simp [conj, less_rfl]
set_option maxHeartbeats 4000000 in
theorem drop_r3 (s : XSt) (z : XZ) (hu : 0 < s.un) (id a m : Int) (g0 : 0 ≤ a) (g1 : 0 ≤ m) (h1 : 1 ≤ id) (h2 : id ≤ 1024) (hh : s.h id = true) (hs0 : 0 ≤ s.sz id) (hs1 : s.sz id ≤ 16777216) (hm : m ≤ 9223372036854775807) (g2 : a ≤ s.sz id) (g3 : s.sz id - a < m) : HC Try.prog 17 [.ptr 0 0, i64 id, i64 a, i64 m] (hpX s z) [] 2 (fun _ : Unit => True) (fun _ => ⟨.tup [.nilsl, i64 3], hpX s z, 2⟩) := by
  refine hc_of_run Try.func17 rfl (fun B hB hpin => ?_)
  refine goQ hB [(17, 15)] 3000 rfl (by first | exact conj_nil | (simp [conj, Fits_i64, isBo4, isPt23, isIf20]; done) | (simp [conj, Fits_i64, isBo4, isPt23, isIf20, hh]; omega)) ?_
  refine run_tt (by first | (simp [g0]; done) | (simp [g0]; omega)) ?_
  refine goQ hB [(17, 17)] 3000 rfl (by first | exact conj_nil | (simp [conj, Fits_i64, isBo4, isPt23, isIf20]; done) | (simp [conj, Fits_i64, isBo4, isPt23, isIf20, hh]; omega)) ?_
  refine run_tt (by first | (simp [g1]; done) | (simp [g1]; omega)) ?_
  refine goQ hB [(35, 10)] 3000 rfl (by first | exact conj_nil | (simp [conj, Fits_i64, isBo4, isPt23, isIf20]; done) | (simp [conj, Fits_i64, isBo4, isPt23, isIf20, hh]; omega)) ?_
  refine run_ff (by first | (simp []; done) | (simp []; omega)) ?_
  refine goQ hB [(42, 17)] 3000 rfl (by first | exact conj_nil | (simp [conj, Fits_i64, isBo4, isPt23, isIf20]; done) | (simp [conj, Fits_i64, isBo4, isPt23, isIf20, hh]; omega)) ?_
  refine run_tt (by first | (simp [h1]; done) | (simp [h1]; omega)) ?_
  refine goQ hB [(42, 19)] 3000 rfl (by first | exact conj_nil | (simp [conj, Fits_i64, isBo4, isPt23, isIf20]; done) | (simp [conj, Fits_i64, isBo4, isPt23, isIf20, hh]; omega)) ?_
  refine run_tt (by first | (simp [h2]; done) | (simp [h2]; omega)) ?_
  refine goQ hB [(42, 30)] 3000 rfl (by first | exact conj_nil | (simp [conj, Fits_i64, isBo4, isPt23, isIf20]; done) | (simp [conj, Fits_i64, isBo4, isPt23, isIf20, hh]; omega)) ?_
  refine run_tt (by first | (simp [hh]; done) | (simp [hh]; omega)) ?_
  refine goQ hB [(17, 23)] 3000 rfl (by first | exact conj_nil | (simp [conj, Fits_i64, isBo4, isPt23, isIf20]; done) | (simp [conj, Fits_i64, isBo4, isPt23, isIf20, hh]; omega)) ?_
  refine run_tt (by first | (simp [g2, hh]; done) | (simp [g2, hh]; omega)) ?_
  refine goQ hB [(17, 32)] 3000 rfl (by first | exact conj_nil | (simp [conj, Fits_i64, isBo4, isPt23, isIf20]; done) | (simp [conj, Fits_i64, isBo4, isPt23, isIf20, hh]; omega)) ?_
  refine run_ff (by first | (simp [g2, hh]; done) | (simp [g2, hh]; omega)) ?_
  refine goQ hB [] 3000 rfl (by first | exact conj_nil | (simp [conj, Fits_i64, isBo4, isPt23, isIf20]; done) | (simp [conj, Fits_i64, isBo4, isPt23, isIf20, hh]; omega)) ?_
  refine run_retCX hpin () trivial [0, 1] (.inl rfl) rfl rfl rfl rfl (by first | exact conj_nil | simp [conj]) (by first | exact conj_nil | simp [conj]) rfl ?_
  simp [conj, less_rfl]
end Sx
