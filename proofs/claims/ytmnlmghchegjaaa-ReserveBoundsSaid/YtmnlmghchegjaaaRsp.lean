/- What ReserveBounds computes: true. Conditions: as each theorem says. -/
import Derived.Test.YtmnlmghchegjaaaRso
import Derived.Test.YtmnlmghchegjaaaRsn
set_option linter.unusedSimpArgs false
set_option linter.unusedVariables false
namespace Sx
open Go Go.Proofs
set_option maxRecDepth 100000
/-- The registered hosts after k calls. -/
def hR (k : Nat) : Int → Bool := fun a => decide (1 ≤ a ∧ a ≤ (k : Int))
def ksR (k : Nat) : List Int := (List.range k).map fun (j : Nat) => (j : Int) + 1
theorem ksR_len (k : Nat) : (ksR k).length = k := by simp [ksR]
theorem ksR_of (k : Nat) : KeysOf (hR k) (ksR k) := by
  refine ⟨?_, fun a => ?_⟩
  · unfold ksR
    rw [List.pairwise_map]
    exact List.pairwise_lt_range.imp fun {a b} h => by omega
  · unfold hR ksR
    rw [decide_eq_true_iff, List.mem_map]
    constructor
    · rintro ⟨j, hj, rfl⟩
      have := List.mem_range.1 hj
      omega
    · intro h
      exact ⟨(a - 1).toNat, List.mem_range.2 (by omega), by omega⟩
abbrev R128 (key : Int) : List Reg := regL (fun _ => key) (ksR 128)
theorem R128_len (key : Int) : (R128 key).length = 128 := by simp [ksR]
theorem R128_at (key : Int) (i : Nat) (hi : i < 128) : regD (R128 key) i = ((i : Int) + 1, key, false) := by
  rw [regD_regL _ _ _ (by rw [ksR_len]; exact hi)]
  simp [lsD, ksR, hi]
theorem R128_ok (key : Int) (h0 : 0 ≤ key) (h1 : key < 18446744073709551616) : ROk 128 0 (R128 key) := by
  refine ⟨by omega, by omega, by rw [R128_len]; omega, fun i hi => ?_⟩
  rw [R128_len] at hi
  rw [R128_at key i hi]
  simp
  omega
theorem R128_v (key : Int) (hk : key ≠ 0) : VOk 0 (R128 key) := by
  refine ⟨fun i hi => ?_, by rw [R128_len]; omega, by omega, by omega, fun h => by omega, fun _ => ?_⟩
  · rw [R128_len] at hi
    rw [R128_at key i hi]
    refine ⟨?_, hk⟩
    cases i with
    | zero => simp [lastR]
    | succ j => simp only [lastR]; rw [R128_at key j (by omega)]; simp; omega
  · rw [R128_len]
    have : cntH (R128 key) 128 = 0 := by
      unfold cntH
      rw [List.countP_eq_zero]
      intro j hj
      rw [R128_at key j (List.mem_range.1 hj)]
      simp
    rw [this]
    rfl
theorem reportB_hc (key : Int) : HC Try.prog 24 [.ptr 0 0] [(1, .map .u64 (hR 128) (.ints .u64 (fun _ => key)))] [(0, .cells [.und, .mp 1, i64 0, .und, .int .u32 128, .sb false] 46)] 2 (fun _ : Unit => True)
      (fun _ => ⟨rep 128 0 false 2 128 .own, [(1, .map .u64 (hR 128) (.ints .u64 (fun _ => key))), (2, .row 0 128 128 3 (regR (R128 key)) 82)], 3⟩) := by
  have h := report0_hc (hR 128) (fun _ => key) (ksR 128) (ksR_of 128) (by rw [ksR_len]; omega) (by simp [hR]) 128 false
  rwa [ksR_len] at h
theorem validB_hc (key : Int) (hk : key ≠ 0) : HC Try.prog 57 [rep 128 0 false 0 128 .no] [] [(0, .row 0 128 128 3 (regR (R128 key)) anyTy)] 1 (fun _ : Unit => True) (fun _ => ⟨.tt, [], 1⟩) := by
  have h := valid_hc 128 0 false (R128 key) (R128_v key hk) 128
  rwa [R128_len] at h
theorem encodeB_hc (key : Int) (h0 : 0 ≤ key) (h1 : key < 18446744073709551616) :
    HC Try.prog 58 [rep 128 0 false 0 128 .no] [] [(0, .row 0 128 128 3 (regR (R128 key)) anyTy)] 1 (fun _ : Unit => True) (fun _ => ⟨.sq 1 0 0 1 3096 .own, [(1, .row 0 3096 3096 1 (byt (encI 128 0 false (R128 key))) 5)], 2⟩) := by
  have h := encode_hc 128 0 false (R128 key) (R128_ok key h0 h1) 128
  rwa [R128_len] at h
theorem decodeB_hc (key : Int) (hk : key ≠ 0) (h0 : 0 ≤ key) (h1 : key < 18446744073709551616) :
    HC Try.prog 26 [.sq 0 0 0 1 3096 .no] [] [(0, .row 0 3096 3096 1 (byt (encI 128 0 false (R128 key))) anyTy)] 1 (fun _ : Unit => True)
      (fun _ => ⟨.tup [rep 128 0 false 1 128 .own, i64 0], [(1, .row 0 128 128 3 (regR (R128 key)) 82)], 2⟩) := by
  have h := decode_hc 128 0 false (R128 key) (R128_ok key h0 h1) (R128_v key hk) 3096
  rwa [R128_len] at h
def modeL : Mode := { st := true, unr := true, inl := fun f => !hasN f [17, 24, 26, 57, 58, 23], sum := sumOf sW, keep := fun _ => none }
theorem goL {B : Base} (hB : B.ok) {ro : Hp} {f : FuncId} {R : Ending → World → Prop} (S : List (Nat × Nat)) (m : Nat) {cs : List Prop} {c c' : Cfg} (h : execY Try.prog modeL ro S m [] c = (cs, c')) (hc : conj cs)
    (hr : Run Try.prog ro B f R c') : Run Try.prog ro B f R c := run_goY mixed named hB sW_ok S m h hc hr
set_option maxHeartbeats 40000000 in
theorem bounds_hc (key : Int) (h0 : 0 ≤ key) (h1 : key < 18446744073709551616) : HC Try.prog 6 [u64 key] [] [] 0 (fun _ : Unit => True) (fun _ => ⟨.tt, [], 0⟩) := by
  refine hc_of_run Try.func6 rfl (fun B hB hpin => ?_)
  refine goL hB [(6, 11)] 3000 rfl (by simp [conj]) ?_
  by_cases hz : key = 0
  · refine run_tt (by simpa using hz) ?_
    refine goL hB [] 3000 rfl (by simp [conj]) ?_
    exact run_retC hpin () trivial [] rfl rfl (by simp [conj]) rfl (by simp [conj])
  refine run_ff (by simpa using hz) ?_
  refine goL hB [(6, 15)] 3000 rfl (by simp [conj]) ?_
  refine run_inv (ι := Nat) hpin (fun k => k ≤ 128) (fun k => 128 - k) (fun k => [(15, .sb (decide ((k : Int) + 1 ≤ 128))), (4, u64 ((k : Int) + 1)), (3, .ptr 0 0), (0, u64 key), (2, .ff)]) (fun _ => []) (fun k => [(0, rS 1 2 k), (1, nN), (2, .map .u64 (hR k) (.ints .u64 (fun _ => key)))]) 3 0 (by decide) [2, 0, 1] rfl rfl ?_ ?_
  · simp [conj, less_rfl]
    intro a
    unfold hR
    simp
    omega
  intro k hk ih
  by_cases hlt : k < 128
  · have ih := ih (k + 1) (by omega) (by omega)
    refine run_tt (by simp; omega) ?_
    refine goL hB [] 3000 rfl (by simp [conj]) ?_
    refine run_callC (regNew_hc (hR k) (fun _ => key) (ksR k) (ksR_of k) (by rw [ksR_len]; omega) ((k : Int) + 1) key k (by omega) hz (by unfold hR; simp; omega)) named hB [0, 1, 2] rfl rfl rfl rfl (by simp [conj]) (by simp [conj, less_rfl, less_nE]) ?_
    rintro ⟨⟩ _
    refine ⟨show 3 ≤ 5 by omega, _, _, _, rfl, rfl, rfl, ?_⟩
    refine goL hB [(6, 15)] 3000 rfl (by simp [conj, rowEqK49, kinds]) ?_
    refine run_to hpin [0, 3, 4] rfl rfl ?_ ih
    clear ih
    have w1 : IntKind.u64.wrap ((k : Int) + 1 + 1) = (k : Int) + 1 + 1 := by rw [wrapU]; omega
    have w2 : IntKind.u32.wrap ((k : Int) + 1) = (k : Int) + 1 := wrap32 _ (by omega) (by omega)
    simp [conj, less_rfl, less_nE, w1, w2]
    intro a
    rw [Bool.eq_iff_iff]
    simp [hR, ieq]
    omega
  · clear ih
    obtain rfl : k = 128 := by omega
    refine run_ff (by simp) ?_
    refine goL hB [] 3000 rfl (by simp [conj]) ?_
    refine run_callC (reportB_hc key) named hB [0, 2] rfl rfl rfl rfl (by simp [conj]) (by simp [conj, less_rfl]) ?_
    rintro ⟨⟩ _
    refine ⟨show 2 ≤ 3 by omega, _, _, _, rfl, rfl, rfl, ?_⟩
    refine goL hB [] 3000 rfl (by simp [conj]) ?_
    refine run_callC (validB_hc key hz) named hB [3] rfl rfl rfl rfl (by simp [conj]) (by simp [conj, less_rfl, ren_regR, renR_regR]) ?_
    rintro ⟨⟩ _
    refine ⟨show 1 ≤ 1 by omega, _, _, _, rfl, rfl, rfl, ?_⟩
    refine goL hB [] 3000 rfl (by simp [conj]) ?_
    refine run_callC (encodeB_hc key h0 h1) named hB [3] rfl rfl rfl rfl (by simp [conj]) (by simp [conj, less_rfl, ren_regR, renR_regR]) ?_
    rintro ⟨⟩ _
    refine ⟨show 1 ≤ 2 by omega, _, _, _, rfl, rfl, rfl, ?_⟩
    refine goL hB [] 3000 rfl (by simp [conj]) ?_
    refine run_callC (decodeB_hc key hz h0 h1) named hB [6] rfl rfl rfl rfl (by simp [conj]) (by simp [conj, less_rfl, ren_byt, renR_byt]) ?_
    rintro ⟨⟩ _
    refine ⟨show 1 ≤ 2 by omega, _, _, _, rfl, rfl, rfl, ?_⟩
    refine goL hB [] 3000 rfl (by simp [conj]) ?_
    refine run_callC (regFull_hc (hR 128) (fun _ => key) (ksR 128) (ksR_of 128) (ksR_len 128) 129 key 128 (by decide) hz (by simp [hR])) named hB [0, 1, 2] rfl rfl rfl rfl (by simp [conj]) (by simp [conj, less_rfl, less_nE]) ?_
    rintro ⟨⟩ _
    refine ⟨show 3 ≤ 3 by omega, _, _, _, rfl, rfl, rfl, ?_⟩
    refine goL hB [] 3000 rfl (by simp [conj, rowEqK49, kinds] <;> decide +kernel) ?_
    refine run_callC (regSame_hc (hR 128) (fun _ => key) 128 key 128 (by decide) hz (by simp [hR]) rfl) named hB [0, 1, 2] rfl rfl rfl rfl (by simp [conj]) (by simp [conj, less_rfl, less_nE, less_nE2]) ?_
    rintro ⟨⟩ _
    refine ⟨show 3 ≤ 5 by omega, _, _, _, rfl, rfl, rfl, ?_⟩
    refine goL hB [] 3000 rfl (by simp [conj, rowEqK49, kinds, Fits_i64]) ?_
    refine run_callC (sameN_hc 128 0 false (R128 key) 128 128 128 (by omega)) named hB [3, 7] rfl rfl rfl rfl (by simp [conj]) (by simp [conj, less_rfl, ren_regR, renR_regR]) ?_
    rintro ⟨⟩ _
    refine ⟨show 2 ≤ 2 by omega, _, _, _, rfl, rfl, rfl, ?_⟩
    refine goL hB [] 3000 rfl (by simp [conj]) ?_
    exact run_retC hpin () trivial [] rfl rfl (by simp [conj]) rfl (by simp [conj])
end Sx
