/- choosePivotOrdered gives a place in range. Conditions: as each theorem says. -/
import Derived.Test.YtlpbmlfejiaamaaNsc
set_option linter.unusedSimpArgs false
set_option linter.unusedVariables false
namespace Sx
open Go Go.Proofs
set_option maxRecDepth 100000
set_option maxHeartbeats 1000000 in
theorem pivot_hc (n cap a b : Nat) (hab : a + 12 < b) (hb : b ≤ n) (hn : n < 1000000) (d : Dt) :
    HC Try.prog 92 [.sq 0 0 0 1 n .no, i64 a, i64 b] [] (roD n cap d) 1 (fun z : Nat × Nat => a ≤ z.1 ∧ z.1 < b) (fun z => ⟨.tup [i64 z.1, i64 z.2], [], 1⟩) := by
  refine hc_of_run Try.func92 rfl (fun B hB hpin => ?_)
  refine goS hB rfl rfl (by simp [conj, Fits_i64]; omega) ?_
  obtain ⟨i0, hi0⟩ : ∃ i0 : Nat, (a : Int) + ((b : Int) - a) / 4 * 1 = i0 := ⟨((a : Int) + ((b : Int) - a) / 4 * 1).toNat, by omega⟩
  obtain ⟨j0, hj0⟩ : ∃ j0 : Nat, (a : Int) + ((b : Int) - a) / 4 * 2 = j0 := ⟨((a : Int) + ((b : Int) - a) / 4 * 2).toNat, by omega⟩
  obtain ⟨k0, hk0⟩ : ∃ k0 : Nat, (a : Int) + ((b : Int) - a) / 4 * 3 = k0 := ⟨((a : Int) + ((b : Int) - a) / 4 * 3).toNat, by omega⟩
  rw [hi0, hj0, hk0]
  have r1 : a + 1 ≤ i0 ∧ i0 + 1 < b := by omega
  have r2 : a + 1 ≤ j0 ∧ j0 + 1 < b := by omega
  have r3 : a + 1 ≤ k0 ∧ k0 + 1 < b := by omega
  clear hi0 hj0 hk0
  refine run_condT rfl (by simp; omega) ?_
  refine goS hB rfl rfl (by simp [conj, Fits_i64]; try omega) ?_
  refine run_cond rfl (fun h => ?_) (fun h => ?_)
  · refine goS hB rfl rfl (by simp [conj]) ?_
    refine run_callC (medianA_hc n cap i0 0 (by omega) (by omega) hn (by omega) d) named hB [0, 1] rfl rfl rfl rfl (by simp [conj]) (by simp [conj, less_rfl, ren_fnr]) ?_
    rintro ⟨i1, s1⟩ ⟨hi1, hi1', hs1⟩
    have hi1 : i0 ≤ i1 + 1 := hi1
    have hi1' : i1 ≤ i0 + 1 := hi1'
    have hs1 : s1 ≤ 0 + 3 := hs1
    refine ⟨show 2 ≤ 2 by omega, _, _, _, rfl, rfl, rfl, ?_⟩
    refine goS hB rfl rfl (by simp [conj]) ?_
    refine run_callC (medianA_hc n cap j0 s1 (by omega) (by omega) hn (by omega) d) named hB [0, 1] rfl rfl rfl rfl (by simp [conj]) (by simp [conj, less_rfl, ren_fnr]) ?_
    rintro ⟨j1, s2⟩ ⟨hj1, hj1', hs2⟩
    have hj1 : j0 ≤ j1 + 1 := hj1
    have hj1' : j1 ≤ j0 + 1 := hj1'
    have hs2 : s2 ≤ s1 + 3 := hs2
    refine ⟨show 2 ≤ 2 by omega, _, _, _, rfl, rfl, rfl, ?_⟩
    refine goS hB rfl rfl (by simp [conj]) ?_
    refine run_callC (medianA_hc n cap k0 s2 (by omega) (by omega) hn (by omega) d) named hB [0, 1] rfl rfl rfl rfl (by simp [conj]) (by simp [conj, less_rfl, ren_fnr]) ?_
    rintro ⟨k1, s3⟩ ⟨hk1, hk1', hs3⟩
    have hk1 : k0 ≤ k1 + 1 := hk1
    have hk1' : k1 ≤ k0 + 1 := hk1'
    have hs3 : s3 ≤ s2 + 3 := hs3
    refine ⟨show 2 ≤ 2 by omega, _, _, _, rfl, rfl, rfl, ?_⟩
    refine goS hB rfl rfl (by simp [conj]) ?_
    refine run_callC (median_hc n cap i1 j1 k1 s3 (by omega) (by omega) (by omega) hn (by omega) d) named hB [0, 1] rfl rfl rfl rfl (by simp [conj]) (by simp [conj, less_rfl, ren_fnr]) ?_
    rintro ⟨z1, z2⟩ ⟨g1, g2⟩
    have g1 : z1 = i1 ∨ z1 = j1 ∨ z1 = k1 := g1
    refine ⟨show 2 ≤ 2 by omega, _, _, _, rfl, rfl, rfl, ?_⟩
    refine goS hB rfl rfl (by simp [conj]) ?_
    refine run_cond rfl (fun hs => ?_) (fun hs => ?_)
    · refine goS hB rfl rfl (by simp [conj]) ?_
      exact run_retC hpin (z1, 1) ⟨by show a ≤ z1; omega, by show z1 < b; omega⟩ [0] rfl rfl (by simp [conj]) rfl (by simp [conj, less_rfl, ren_fnr])
    · refine goS hB rfl rfl (by simp [conj]) ?_
      refine run_cond rfl (fun hs2 => ?_) (fun hs2 => ?_)
      · refine goS hB rfl rfl (by simp [conj]) ?_
        exact run_retC hpin (z1, 2) ⟨by show a ≤ z1; omega, by show z1 < b; omega⟩ [0] rfl rfl (by simp [conj]) rfl (by simp [conj, less_rfl, ren_fnr])
      · refine goS hB rfl rfl (by simp [conj]) ?_
        exact run_retC hpin (z1, 0) ⟨by show a ≤ z1; omega, by show z1 < b; omega⟩ [0] rfl rfl (by simp [conj]) rfl (by simp [conj, less_rfl, ren_fnr])
  · refine goS hB rfl rfl (by simp [conj]) ?_
    refine run_callC (median_hc n cap i0 j0 k0 0 (by omega) (by omega) (by omega) hn (by omega) d) named hB [0, 1] rfl rfl rfl rfl (by simp [conj]) (by simp [conj, less_rfl, ren_fnr]) ?_
    rintro ⟨z1, z2⟩ ⟨g1, g2⟩
    have g1 : z1 = i0 ∨ z1 = j0 ∨ z1 = k0 := g1
    refine ⟨show 2 ≤ 2 by omega, _, _, _, rfl, rfl, rfl, ?_⟩
    refine goS hB rfl rfl (by simp [conj]) ?_
    refine run_cond rfl (fun hs => ?_) (fun hs => ?_)
    · refine goS hB rfl rfl (by simp [conj]) ?_
      exact run_retC hpin (z1, 1) ⟨by show a ≤ z1; omega, by show z1 < b; omega⟩ [0] rfl rfl (by simp [conj]) rfl (by simp [conj, less_rfl, ren_fnr])
    · refine goS hB rfl rfl (by simp [conj]) ?_
      refine run_cond rfl (fun hs2 => ?_) (fun hs2 => ?_)
      · refine goS hB rfl rfl (by simp [conj]) ?_
        exact run_retC hpin (z1, 2) ⟨by show a ≤ z1; omega, by show z1 < b; omega⟩ [0] rfl rfl (by simp [conj]) rfl (by simp [conj, less_rfl, ren_fnr])
      · refine goS hB rfl rfl (by simp [conj]) ?_
        exact run_retC hpin (z1, 0) ⟨by show a ≤ z1; omega, by show z1 < b; omega⟩ [0] rfl rfl (by simp [conj]) rfl (by simp [conj, less_rfl, ren_fnr])
end Sx
