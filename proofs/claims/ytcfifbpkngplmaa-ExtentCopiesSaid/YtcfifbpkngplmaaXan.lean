/- New on both sides; the law's made. Conditions: as each theorem says. -/
import Derived.Test.YtcfifbpkngplmaaXam
set_option linter.unusedSimpArgs false
set_option linter.unusedVariables false
namespace Sx
open Go Go.Proofs
set_option maxRecDepth 100000
set_option pp.deepTerms true
set_option pp.maxSteps 10000000
theorem must5_hc (c : Int) : HC Try.prog 33 [e24 c, .sq 0 0 0 1 5 .no] [] [(0, .cells [.tt, .tt, .tt, .tt, .tt] 4)] 1 (fun _ : Unit => True) (fun _ => ⟨.tup [], [], 1⟩) := by
  refine hc_of_run Try.func33 rfl (fun B hB hpin => ?_)
  refine goQ hB [] 400 rfl (by first | exact conj_nil | simp [conj, isBo4, Fits_i64]) ?_
  exact run_endC hpin () trivial [0] rfl rfl (by first | exact conj_nil | simp [conj]) rfl (by first | exact conj_nil | simp [conj, less_rfl])
set_option maxHeartbeats 4000000 in
theorem new_no0 (n u : Int)  (hn : n < 1) : HC Try.prog 9 [i64 n, i64 u] [] [] 0 (fun _ : Unit => True) (fun _ => ⟨.tup [.nil, i64 2], [], 0⟩) := by
  refine hc_of_run Try.func9 rfl (fun B hB hpin => ?_)
  refine goQ hB [(9, 8)] 3000 rfl (by first | exact conj_nil | (simp [conj, Fits_i64, isBo4, isPt23, isIf20]; done) | (simp [conj, Fits_i64, isBo4, isPt23, isIf20]; omega)) ?_
  refine goQ hB [(9, 10)] 3000 rfl (by first | exact conj_nil | (simp [conj, Fits_i64, isBo4, isPt23, isIf20]; done) | (simp [conj, Fits_i64, isBo4, isPt23, isIf20]; omega)) ?_
  refine goQ hB [(9, 12)] 3000 rfl (by first | exact conj_nil | (simp [conj, Fits_i64, isBo4, isPt23, isIf20]; done) | (simp [conj, Fits_i64, isBo4, isPt23, isIf20]; omega)) ?_
  refine goQ hB [(9, 14)] 3000 rfl (by first | exact conj_nil | (simp [conj, Fits_i64, isBo4, isPt23, isIf20]; done) | (simp [conj, Fits_i64, isBo4, isPt23, isIf20]; omega)) ?_
  refine goQ hB [(9, 17)] 3000 rfl (by first | exact conj_nil | (simp [conj, Fits_i64, isBo4, isPt23, isIf20]; done) | (simp [conj, Fits_i64, isBo4, isPt23, isIf20]; omega)) ?_
  refine goQ hB [(74, 15)] 3000 rfl (by first | exact conj_nil | (simp [conj, Fits_i64, isBo4, isPt23, isIf20]; done) | (simp [conj, Fits_i64, isBo4, isPt23, isIf20]; omega)) ?_
  refine run_ff (by first | (simp [hn]; done) | (simp; omega)) ?_
  refine goQ hB [] 3000 rfl (by first | exact conj_nil | (simp [conj, Fits_i64, isBo4, isPt23, isIf20]; done) | (simp [conj, Fits_i64, isBo4, isPt23, isIf20]; omega)) ?_
  refine run_retCX hpin () trivial [] (.inl rfl) rfl rfl rfl rfl (by first | exact conj_nil | simp [conj]) (by first | exact conj_nil | simp [conj]) rfl ?_
  simp [conj, less_rfl]
set_option maxHeartbeats 4000000 in
theorem new_no1 (n u : Int) (h0 : 1 ≤ n) (hn : 16777216 < n) : HC Try.prog 9 [i64 n, i64 u] [] [] 0 (fun _ : Unit => True) (fun _ => ⟨.tup [.nil, i64 2], [], 0⟩) := by
  refine hc_of_run Try.func9 rfl (fun B hB hpin => ?_)
  refine goQ hB [(9, 8)] 3000 rfl (by first | exact conj_nil | (simp [conj, Fits_i64, isBo4, isPt23, isIf20]; done) | (simp [conj, Fits_i64, isBo4, isPt23, isIf20]; omega)) ?_
  refine goQ hB [(9, 10)] 3000 rfl (by first | exact conj_nil | (simp [conj, Fits_i64, isBo4, isPt23, isIf20]; done) | (simp [conj, Fits_i64, isBo4, isPt23, isIf20]; omega)) ?_
  refine goQ hB [(9, 12)] 3000 rfl (by first | exact conj_nil | (simp [conj, Fits_i64, isBo4, isPt23, isIf20]; done) | (simp [conj, Fits_i64, isBo4, isPt23, isIf20]; omega)) ?_
  refine goQ hB [(9, 14)] 3000 rfl (by first | exact conj_nil | (simp [conj, Fits_i64, isBo4, isPt23, isIf20]; done) | (simp [conj, Fits_i64, isBo4, isPt23, isIf20]; omega)) ?_
  refine goQ hB [(9, 17)] 3000 rfl (by first | exact conj_nil | (simp [conj, Fits_i64, isBo4, isPt23, isIf20]; done) | (simp [conj, Fits_i64, isBo4, isPt23, isIf20]; omega)) ?_
  refine goQ hB [(74, 15)] 3000 rfl (by first | exact conj_nil | (simp [conj, Fits_i64, isBo4, isPt23, isIf20]; done) | (simp [conj, Fits_i64, isBo4, isPt23, isIf20]; omega)) ?_
  refine run_tt (by first | (simp [h0]; done) | (simp; omega)) ?_
  refine goQ hB [(74, 15)] 3000 rfl (by first | exact conj_nil | (simp [conj, Fits_i64, isBo4, isPt23, isIf20]; done) | (simp [conj, Fits_i64, isBo4, isPt23, isIf20]; omega)) ?_
  refine run_ff (by first | (simp [hn]; done) | (simp; omega)) ?_
  refine goQ hB [] 3000 rfl (by first | exact conj_nil | (simp [conj, Fits_i64, isBo4, isPt23, isIf20]; done) | (simp [conj, Fits_i64, isBo4, isPt23, isIf20]; omega)) ?_
  refine run_retCX hpin () trivial [] (.inl rfl) rfl rfl rfl rfl (by first | exact conj_nil | simp [conj]) (by first | exact conj_nil | simp [conj]) rfl ?_
  simp [conj, less_rfl]
set_option maxHeartbeats 4000000 in
theorem new_no2 (n u : Int) (h0 : 1 ≤ n) (h1 : n ≤ 16777216) (hn : u < 1) : HC Try.prog 9 [i64 n, i64 u] [] [] 0 (fun _ : Unit => True) (fun _ => ⟨.tup [.nil, i64 2], [], 0⟩) := by
  refine hc_of_run Try.func9 rfl (fun B hB hpin => ?_)
  refine goQ hB [(9, 8)] 3000 rfl (by first | exact conj_nil | (simp [conj, Fits_i64, isBo4, isPt23, isIf20]; done) | (simp [conj, Fits_i64, isBo4, isPt23, isIf20]; omega)) ?_
  refine goQ hB [(9, 10)] 3000 rfl (by first | exact conj_nil | (simp [conj, Fits_i64, isBo4, isPt23, isIf20]; done) | (simp [conj, Fits_i64, isBo4, isPt23, isIf20]; omega)) ?_
  refine goQ hB [(9, 12)] 3000 rfl (by first | exact conj_nil | (simp [conj, Fits_i64, isBo4, isPt23, isIf20]; done) | (simp [conj, Fits_i64, isBo4, isPt23, isIf20]; omega)) ?_
  refine goQ hB [(9, 14)] 3000 rfl (by first | exact conj_nil | (simp [conj, Fits_i64, isBo4, isPt23, isIf20]; done) | (simp [conj, Fits_i64, isBo4, isPt23, isIf20]; omega)) ?_
  refine goQ hB [(9, 17)] 3000 rfl (by first | exact conj_nil | (simp [conj, Fits_i64, isBo4, isPt23, isIf20]; done) | (simp [conj, Fits_i64, isBo4, isPt23, isIf20]; omega)) ?_
  refine goQ hB [(74, 15)] 3000 rfl (by first | exact conj_nil | (simp [conj, Fits_i64, isBo4, isPt23, isIf20]; done) | (simp [conj, Fits_i64, isBo4, isPt23, isIf20]; omega)) ?_
  refine run_tt (by first | (simp [h0]; done) | (simp; omega)) ?_
  refine goQ hB [(74, 15)] 3000 rfl (by first | exact conj_nil | (simp [conj, Fits_i64, isBo4, isPt23, isIf20]; done) | (simp [conj, Fits_i64, isBo4, isPt23, isIf20]; omega)) ?_
  refine run_tt (by first | (simp [h1]; done) | (simp; omega)) ?_
  refine goQ hB [(74, 15)] 3000 rfl (by first | exact conj_nil | (simp [conj, Fits_i64, isBo4, isPt23, isIf20]; done) | (simp [conj, Fits_i64, isBo4, isPt23, isIf20]; omega)) ?_
  refine run_ff (by first | (simp [hn]; done) | (simp; omega)) ?_
  refine goQ hB [] 3000 rfl (by first | exact conj_nil | (simp [conj, Fits_i64, isBo4, isPt23, isIf20]; done) | (simp [conj, Fits_i64, isBo4, isPt23, isIf20]; omega)) ?_
  refine run_retCX hpin () trivial [] (.inl rfl) rfl rfl rfl rfl (by first | exact conj_nil | simp [conj]) (by first | exact conj_nil | simp [conj]) rfl ?_
  simp [conj, less_rfl]
set_option maxHeartbeats 4000000 in
theorem new_no3 (n u : Int) (h0 : 1 ≤ n) (h1 : n ≤ 16777216) (h2 : 1 ≤ u) (hn : 4096 < u) : HC Try.prog 9 [i64 n, i64 u] [] [] 0 (fun _ : Unit => True) (fun _ => ⟨.tup [.nil, i64 2], [], 0⟩) := by
  refine hc_of_run Try.func9 rfl (fun B hB hpin => ?_)
  refine goQ hB [(9, 8)] 3000 rfl (by first | exact conj_nil | (simp [conj, Fits_i64, isBo4, isPt23, isIf20]; done) | (simp [conj, Fits_i64, isBo4, isPt23, isIf20]; omega)) ?_
  refine goQ hB [(9, 10)] 3000 rfl (by first | exact conj_nil | (simp [conj, Fits_i64, isBo4, isPt23, isIf20]; done) | (simp [conj, Fits_i64, isBo4, isPt23, isIf20]; omega)) ?_
  refine goQ hB [(9, 12)] 3000 rfl (by first | exact conj_nil | (simp [conj, Fits_i64, isBo4, isPt23, isIf20]; done) | (simp [conj, Fits_i64, isBo4, isPt23, isIf20]; omega)) ?_
  refine goQ hB [(9, 14)] 3000 rfl (by first | exact conj_nil | (simp [conj, Fits_i64, isBo4, isPt23, isIf20]; done) | (simp [conj, Fits_i64, isBo4, isPt23, isIf20]; omega)) ?_
  refine goQ hB [(9, 17)] 3000 rfl (by first | exact conj_nil | (simp [conj, Fits_i64, isBo4, isPt23, isIf20]; done) | (simp [conj, Fits_i64, isBo4, isPt23, isIf20]; omega)) ?_
  refine goQ hB [(74, 15)] 3000 rfl (by first | exact conj_nil | (simp [conj, Fits_i64, isBo4, isPt23, isIf20]; done) | (simp [conj, Fits_i64, isBo4, isPt23, isIf20]; omega)) ?_
  refine run_tt (by first | (simp [h0]; done) | (simp; omega)) ?_
  refine goQ hB [(74, 15)] 3000 rfl (by first | exact conj_nil | (simp [conj, Fits_i64, isBo4, isPt23, isIf20]; done) | (simp [conj, Fits_i64, isBo4, isPt23, isIf20]; omega)) ?_
  refine run_tt (by first | (simp [h1]; done) | (simp; omega)) ?_
  refine goQ hB [(74, 15)] 3000 rfl (by first | exact conj_nil | (simp [conj, Fits_i64, isBo4, isPt23, isIf20]; done) | (simp [conj, Fits_i64, isBo4, isPt23, isIf20]; omega)) ?_
  refine run_tt (by first | (simp [h2]; done) | (simp; omega)) ?_
  refine goQ hB [(74, 15)] 3000 rfl (by first | exact conj_nil | (simp [conj, Fits_i64, isBo4, isPt23, isIf20]; done) | (simp [conj, Fits_i64, isBo4, isPt23, isIf20]; omega)) ?_
  refine run_ff (by first | (simp [hn]; done) | (simp; omega)) ?_
  refine goQ hB [] 3000 rfl (by first | exact conj_nil | (simp [conj, Fits_i64, isBo4, isPt23, isIf20]; done) | (simp [conj, Fits_i64, isBo4, isPt23, isIf20]; omega)) ?_
  refine run_retCX hpin () trivial [] (.inl rfl) rfl rfl rfl rfl (by first | exact conj_nil | simp [conj]) (by first | exact conj_nil | simp [conj]) rfl ?_
  simp [conj, less_rfl]
set_option maxHeartbeats 4000000 in
theorem new_no4 (n u : Int) (h0 : 1 ≤ n) (h1 : n ≤ 16777216) (h2 : 1 ≤ u) (h3 : u ≤ 4096) (hn : n < u) : HC Try.prog 9 [i64 n, i64 u] [] [] 0 (fun _ : Unit => True) (fun _ => ⟨.tup [.nil, i64 2], [], 0⟩) := by
  refine hc_of_run Try.func9 rfl (fun B hB hpin => ?_)
  refine goQ hB [(9, 8)] 3000 rfl (by first | exact conj_nil | (simp [conj, Fits_i64, isBo4, isPt23, isIf20]; done) | (simp [conj, Fits_i64, isBo4, isPt23, isIf20]; omega)) ?_
  refine goQ hB [(9, 10)] 3000 rfl (by first | exact conj_nil | (simp [conj, Fits_i64, isBo4, isPt23, isIf20]; done) | (simp [conj, Fits_i64, isBo4, isPt23, isIf20]; omega)) ?_
  refine goQ hB [(9, 12)] 3000 rfl (by first | exact conj_nil | (simp [conj, Fits_i64, isBo4, isPt23, isIf20]; done) | (simp [conj, Fits_i64, isBo4, isPt23, isIf20]; omega)) ?_
  refine goQ hB [(9, 14)] 3000 rfl (by first | exact conj_nil | (simp [conj, Fits_i64, isBo4, isPt23, isIf20]; done) | (simp [conj, Fits_i64, isBo4, isPt23, isIf20]; omega)) ?_
  refine goQ hB [(9, 17)] 3000 rfl (by first | exact conj_nil | (simp [conj, Fits_i64, isBo4, isPt23, isIf20]; done) | (simp [conj, Fits_i64, isBo4, isPt23, isIf20]; omega)) ?_
  refine goQ hB [(74, 15)] 3000 rfl (by first | exact conj_nil | (simp [conj, Fits_i64, isBo4, isPt23, isIf20]; done) | (simp [conj, Fits_i64, isBo4, isPt23, isIf20]; omega)) ?_
  refine run_tt (by first | (simp [h0]; done) | (simp; omega)) ?_
  refine goQ hB [(74, 15)] 3000 rfl (by first | exact conj_nil | (simp [conj, Fits_i64, isBo4, isPt23, isIf20]; done) | (simp [conj, Fits_i64, isBo4, isPt23, isIf20]; omega)) ?_
  refine run_tt (by first | (simp [h1]; done) | (simp; omega)) ?_
  refine goQ hB [(74, 15)] 3000 rfl (by first | exact conj_nil | (simp [conj, Fits_i64, isBo4, isPt23, isIf20]; done) | (simp [conj, Fits_i64, isBo4, isPt23, isIf20]; omega)) ?_
  refine run_tt (by first | (simp [h2]; done) | (simp; omega)) ?_
  refine goQ hB [(74, 15)] 3000 rfl (by first | exact conj_nil | (simp [conj, Fits_i64, isBo4, isPt23, isIf20]; done) | (simp [conj, Fits_i64, isBo4, isPt23, isIf20]; omega)) ?_
  refine run_tt (by first | (simp [h3]; done) | (simp; omega)) ?_
  refine goQ hB [(74, 15)] 3000 rfl (by first | exact conj_nil | (simp [conj, Fits_i64, isBo4, isPt23, isIf20]; done) | (simp [conj, Fits_i64, isBo4, isPt23, isIf20]; omega)) ?_
  refine run_ff (by first | (simp [hn]; done) | (simp; omega)) ?_
  refine goQ hB [] 3000 rfl (by first | exact conj_nil | (simp [conj, Fits_i64, isBo4, isPt23, isIf20]; done) | (simp [conj, Fits_i64, isBo4, isPt23, isIf20]; omega)) ?_
  refine run_retCX hpin () trivial [] (.inl rfl) rfl rfl rfl rfl (by first | exact conj_nil | simp [conj]) (by first | exact conj_nil | simp [conj]) rfl ?_
  simp [conj, less_rfl]
abbrev bad (n u : Int) : Prop := n < 1 ∨ 16777216 < n ∨ u < 1 ∨ 4096 < u ∨ n < u
theorem new_no (n u : Int) (h : bad n u) : HC Try.prog 9 [i64 n, i64 u] [] [] 0 (fun _ : Unit => True) (fun _ => ⟨.tup [.nil, i64 2], [], 0⟩) := by
  by_cases h0 : n < 1
  · exact new_no0 n u h0
  by_cases h1 : 16777216 < n
  · exact new_no1 n u (by omega) h1
  by_cases h2 : u < 1
  · exact new_no2 n u (by omega) (by omega) h2
  by_cases h3 : 4096 < u
  · exact new_no3 n u (by omega) (by omega) (by omega) h3
  · exact new_no4 n u (by omega) (by omega) (by omega) (by omega) (by rcases h with h | h | h | h | h <;> omega)
abbrev s0 (n u : Int) : XSt := ⟨fun _ => false, fun _ => 0, fun _ => 0, fun _ _ => 0, [], 0, n / u, u⟩
abbrev z0 (w : Value) : XZ := ⟨fun _ => .slice none 0 0, fun _ => 0, w⟩
theorem new_ok (K : Kn) (n u : Int) (h : ¬ bad n u) : HCX Try.prog K M0 9 [i64 n, i64 u] [] [] 0 (fun (w : Value) K' => Froz K' w 0 1 (nrow [])) (fun w => ⟨.tup [.ptr 0 0, i64 0], hpX (s0 n u) (z0 w), 2⟩) := by
  have h0 : 1 ≤ n ∧ n ≤ 16777216 ∧ 1 ≤ u ∧ u ≤ 4096 ∧ u ≤ n := by
    refine ⟨?_, ?_, ?_, ?_, ?_⟩ <;> (refine Int.not_lt.1 fun q => h ?_; simp [bad, q])
  obtain ⟨a0, a1, a2, a3, a4⟩ := h0
  have hd : 0 ≤ n / u := Int.ediv_nonneg (by omega) (by omega)
  refine hcx_of_run Try.func9 rfl (fun B hB hK hpin => ?_)
  refine goM hB rfl rfl (by simp [conj, Fits_i64]) ?_
  refine run_callC (must5_hc 2) named hB [2] rfl rfl rfl rfl (by first | exact conj_nil | simp [conj]) (by simp [conj, less_rfl, a0, a1, a2, a3, a4]) ?_
  rintro ⟨⟩ _
  refine ⟨show 1 ≤ 1 by omega, _, _, _, rfl, rfl, rfl, ?_⟩
  refine goMT hB [] 11 rfl (by simp [conj, Fits_i64, isIf20]; omega) ?_
  refine run_to hpin [0, 1, 4, 3, 9] (nx' := 5) (rest' := []) (sl' := [(27, .ptr 2 0), (5, .ptr 1 0), (4, .ptr 0 0)]) (hp' := [(2, .cells [.sq 4 0 0 1 0 .own, i64 0, i64 (n / u), i64 u, .mp 3] 66), (3, amap (fun _ => false) (fun _ => 0) (fun _ => .slice none 0 0)), (1, .cells [i64 0] 24), (0, .cells [.nil] 23), (4, .row 0 0 0 1 (nrow []) 3)]) rfl rfl ?_ ?_
  · simp [conj, less_rfl]
  refine run_freezeB (L := 4) (off := 0) (sz := 1) (m := 0) (ap := .own) hB hK 2 0 rfl rfl rfl rfl (Nat.le_refl _) (fun _ _ _ _ => rfl) rfl (fun _ => rfl) (fun _ => rfl) (fun w B2 K2 hw hF2 hp2 => ?_)
  refine goMT hF2.ok [] 400 rfl (by simp [conj, isIf20]) ?_
  refine run_retFX hF2 (hpin.fz hF2 hp2) w hw [2, 3] (.inl rfl) rfl rfl rfl rfl (by first | exact conj_nil | simp [conj]) (by first | exact conj_nil | simp [conj]) rfl ?_
  simp [conj, less_rfl]
theorem newR_no (n u : Int) (h : bad n u) : HC Try.prog 23 [i64 n, i64 u] [] [] 0 (fun _ : Unit => True) (fun _ => ⟨.tup [.agg [i64 0, i64 0, .nilsl], i64 2], [], 0⟩) := by
  refine hc_of_run Try.func23 rfl (fun B hB hpin => ?_)
  refine goRT hB [(23, 7)] 400 rfl (by first | exact conj_nil | simp [conj]) ?_
  by_cases h0 : n < 1
  · refine run_tt (by simpa using h0) ?_
    refine goR hB rfl rfl (by first | exact conj_nil | simp [conj]) ?_
    refine run_retC hpin () trivial [] rfl rfl (by first | exact conj_nil | simp [conj]) rfl ?_
    simp [conj, less_rfl]
  refine run_ff (by simpa using h0) ?_
  refine goRT hB [(23, 10)] 400 rfl (by first | exact conj_nil | simp [conj]) ?_
  by_cases h1 : 16777216 < n
  · refine run_tt (by simpa using h1) ?_
    refine goR hB rfl rfl (by first | exact conj_nil | simp [conj]) ?_
    refine run_retC hpin () trivial [] rfl rfl (by first | exact conj_nil | simp [conj]) rfl ?_
    simp [conj, less_rfl]
  refine run_ff (by simpa using h1) ?_
  refine goRT hB [(23, 14)] 400 rfl (by first | exact conj_nil | simp [conj]) ?_
  by_cases h2 : u < 1
  · refine run_tt (by simpa using h2) ?_
    refine goR hB rfl rfl (by first | exact conj_nil | simp [conj]) ?_
    refine run_retC hpin () trivial [] rfl rfl (by first | exact conj_nil | simp [conj]) rfl ?_
    simp [conj, less_rfl]
  refine run_ff (by simpa using h2) ?_
  refine goRT hB [(23, 18)] 400 rfl (by first | exact conj_nil | simp [conj]) ?_
  by_cases h3 : 4096 < u
  · refine run_tt (by simpa using h3) ?_
    refine goR hB rfl rfl (by first | exact conj_nil | simp [conj]) ?_
    refine run_retC hpin () trivial [] rfl rfl (by first | exact conj_nil | simp [conj]) rfl ?_
    simp [conj, less_rfl]
  refine run_ff (by simpa using h3) ?_
  refine goRT hB [(23, 23)] 400 rfl (by first | exact conj_nil | simp [conj]) ?_
  by_cases h4 : n < u
  · refine run_tt (by simpa using h4) ?_
    refine goR hB rfl rfl (by first | exact conj_nil | simp [conj]) ?_
    refine run_retC hpin () trivial [] rfl rfl (by first | exact conj_nil | simp [conj]) rfl ?_
    simp [conj, less_rfl]
  rcases h with h | h | h | h | h <;> omega
theorem newR_ok (n u : Int) (h : ¬ bad n u) : HC Try.prog 23 [i64 n, i64 u] [] [] 0 (fun _ : Unit => True) (fun _ => ⟨.tup [.agg [i64 u, i64 (n / u), .nilsl], i64 0], [], 0⟩) := by
  have h0 : 1 ≤ n ∧ n ≤ 16777216 ∧ 1 ≤ u ∧ u ≤ 4096 ∧ u ≤ n := by
    refine ⟨?_, ?_, ?_, ?_, ?_⟩ <;> (refine Int.not_lt.1 fun q => h ?_; simp [bad, q])
  obtain ⟨a0, a1, a2, a3, a4⟩ := h0
  refine hc_of_run Try.func23 rfl (fun B hB hpin => ?_)
  refine goRT hB [(23, 7)] 400 rfl (by first | exact conj_nil | simp [conj]) ?_
  refine run_ff (by simp; omega) ?_
  refine goRT hB [(23, 10)] 400 rfl (by first | exact conj_nil | simp [conj]) ?_
  refine run_ff (by simp; omega) ?_
  refine goRT hB [(23, 14)] 400 rfl (by first | exact conj_nil | simp [conj]) ?_
  refine run_ff (by simp; omega) ?_
  refine goRT hB [(23, 18)] 400 rfl (by first | exact conj_nil | simp [conj]) ?_
  refine run_ff (by simp; omega) ?_
  refine goRT hB [(23, 23)] 400 rfl (by first | exact conj_nil | simp [conj]) ?_
  refine run_ff (by simp; omega) ?_
  refine goR hB rfl rfl (by simp [conj, Fits_i64]; omega) ?_
  refine run_retC hpin () trivial [] rfl rfl (by first | exact conj_nil | simp [conj]) rfl ?_
  simp [conj, less_rfl]
end Sx
