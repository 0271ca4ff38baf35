/- reverseRangeOrdered swaps; order2, median, choosePivot give places in range. Conditions: as each theorem says. -/
import Derived.Test.YtlpbmlfejiaamaaNsb
set_option linter.unusedSimpArgs false
set_option linter.unusedVariables false
namespace Sx
open Go Go.Proofs
set_option maxRecDepth 100000
set_option maxHeartbeats 1000000 in
theorem reverse_hc (n cap a b : Nat) (hab : a < b) (hb : b ≤ n) (hn : n < 1000000) (d : Dt) :
    HC Try.prog 93 [.sq 0 0 0 1 n .no, i64 a, i64 b] (rowD n cap d) [] 1 (fun e : Dt => SW a b d e) (fun e => ⟨.tup [], rowD n cap e, 1⟩) := by
  refine hc_of_run Try.func93 rfl (fun B hB hpin => ?_)
  refine goS hB rfl rfl (by simp [conj, Fits_i64]; omega) ?_
  refine run_loop ?_
  refine run_inv (ι := Nat × Nat × Dt) hpin (fun z => a ≤ z.1 ∧ z.2.1 < b ∧ SW a b d z.2.2) (fun z => z.2.1 + b - z.1) (fun z => [(6, i64 z.1), (7, i64 z.2.1), (0, .sq 0 0 0 1 n .no)]) (fun _ => []) (fun z => rowD n cap z.2.2) 1 (a, b - 1, d) ⟨Nat.le_refl _, by show b - 1 < b; omega, .refl⟩
    [0] rfl rfl (by simp [conj, less_rfl, ren_fnr]; omega) ?_
  rintro ⟨i, j, e⟩ ⟨h1, h2, h3⟩ ih
  have h1 : a ≤ i := h1
  have h2 : j < b := h2
  refine goS hB rfl rfl (by simp [conj]) ?_
  refine run_cond rfl (fun h => ?_) (fun h => ?_)
  · have hij : i < j := by simpa using h
    have ih := ih (i + 1, j - 1, swp e i j) ⟨by show a ≤ i + 1; omega, by show j - 1 < b; omega, .step i j h3 (by omega) (by omega) (by omega) (by omega)⟩ (by show j - 1 + b - (i + 1) < j + b - i; omega)
    refine goS hB rfl rfl (by simp [conj, Fits_i64]; omega) ?_
    refine run_back ?_
    refine run_to hpin [0] rfl rfl ?_ ih
    clear ih
    simp [conj, less_rfl, ren_fnr, renR_fnr]
    exact ⟨by omega, fun k _ => Less.of (swp_upd e i j k).symm⟩
  · clear ih
    refine goS hB rfl rfl (by simp [conj]) ?_
    exact run_endC hpin e h3 [0] rfl rfl (by simp [conj]) rfl (by simp [conj, less_rfl, ren_fnr])
abbrev roD (n cap : Nat) (d : Dt) : Hp := [(0, .row 0 n cap 1 (fnr d) anyTy)]
/-- In order, and whether they were swapped. -/
theorem order2_hc (n cap p q s : Nat) (hp : p < n) (hq : q < n) (hn : n < 1000000) (hs : s < 1000) (d : Dt) :
    HC Try.prog 106 [.sq 0 0 0 1 n .no, i64 p, i64 q, .ptr 1 0] [(1, .cells [i64 s] 3)] (roD n cap d) 2 (fun _ : Bool => True) (fun z => ⟨.tup [i64 (if z then q else p : Nat), i64 (if z then p else q : Nat)], [(1, .cells [i64 (if z then s + 1 else s : Nat)] 3)], 2⟩) := by
  refine hc_of_run Try.func106 rfl (fun B hB hpin => ?_)
  refine goS hB rfl rfl (by simp [conj]; omega) ?_
  refine run_cond rfl (fun h => ?_) (fun h => ?_)
  · refine goS hB rfl rfl (by simp [conj, Fits_i64]; omega) ?_
    exact run_retC hpin true trivial [0, 1] rfl rfl (by simp [conj]) rfl (by simp [conj, less_rfl, ren_fnr])
  · refine goS hB rfl rfl (by simp [conj]) ?_
    exact run_retC hpin false trivial [0, 1] rfl rfl (by simp [conj]) rfl (by simp [conj, less_rfl, ren_fnr])
theorem median_hc (n cap p q r s : Nat) (hp : p < n) (hq : q < n) (hr : r < n) (hn : n < 1000000) (hs : s < 900) (d : Dt) :
    HC Try.prog 104 [.sq 0 0 0 1 n .no, i64 p, i64 q, i64 r, .ptr 1 0] [(1, .cells [i64 s] 3)] (roD n cap d) 2 (fun z : Nat × Nat => (z.1 = p ∨ z.1 = q ∨ z.1 = r) ∧ z.2 ≤ s + 3) (fun z => ⟨i64 z.1, [(1, .cells [i64 z.2] 3)], 2⟩) := by
  refine hc_of_run Try.func104 rfl (fun B hB hpin => ?_)
  refine goS hB rfl rfl (by simp [conj]) ?_
  refine run_callC (order2_hc n cap p q s hp hq hn (by omega) d) named hB [0, 1] rfl rfl rfl rfl (by simp [conj]) (by simp [conj, less_rfl, ren_fnr]) ?_
  intro z1 _
  refine ⟨show 2 ≤ 2 by omega, _, _, _, rfl, rfl, rfl, ?_⟩
  obtain ⟨p1, hp1⟩ : ∃ p1 : Nat, (if z1 = true then q else p) = p1 := ⟨_, rfl⟩
  obtain ⟨q1, hq1⟩ : ∃ q1 : Nat, (if z1 = true then p else q) = q1 := ⟨_, rfl⟩
  obtain ⟨s1, hs1⟩ : ∃ s1 : Nat, (if z1 = true then s + 1 else s) = s1 := ⟨_, rfl⟩
  rw [hp1, hq1, hs1]
  have b1 : p1 < n ∧ q1 < n ∧ s1 ≤ s + 1 ∧ (p1 = p ∨ p1 = q) ∧ (q1 = p ∨ q1 = q) := by cases z1 <;> simp at hp1 hq1 hs1 <;> omega
  obtain ⟨b1, b2, b3, b4, b5⟩ := b1
  refine goS hB rfl rfl (by simp [conj]) ?_
  refine run_callC (order2_hc n cap q1 r s1 b2 hr hn (by omega) d) named hB [0, 1] rfl rfl rfl rfl (by simp [conj]) (by simp [conj, less_rfl, ren_fnr]) ?_
  intro z2 _
  refine ⟨show 2 ≤ 2 by omega, _, _, _, rfl, rfl, rfl, ?_⟩
  obtain ⟨q2, hq2⟩ : ∃ q2 : Nat, (if z2 = true then r else q1) = q2 := ⟨_, rfl⟩
  obtain ⟨r2, hr2⟩ : ∃ r2 : Nat, (if z2 = true then q1 else r) = r2 := ⟨_, rfl⟩
  obtain ⟨s2, hs2⟩ : ∃ s2 : Nat, (if z2 = true then s1 + 1 else s1) = s2 := ⟨_, rfl⟩
  rw [hq2, hr2, hs2]
  have c1 : q2 < n ∧ s2 ≤ s + 2 ∧ (q2 = p ∨ q2 = q ∨ q2 = r) := by cases z2 <;> simp at hq2 hr2 hs2 <;> omega
  obtain ⟨c1, c2, c3⟩ := c1
  refine goS hB rfl rfl (by simp [conj]) ?_
  refine run_callC (order2_hc n cap p1 q2 s2 b1 c1 hn (by omega) d) named hB [0, 1] rfl rfl rfl rfl (by simp [conj]) (by simp [conj, less_rfl, ren_fnr]) ?_
  intro z3 _
  refine ⟨show 2 ≤ 2 by omega, _, _, _, rfl, rfl, rfl, ?_⟩
  refine goS hB rfl rfl (by simp [conj]) ?_
  refine run_retC hpin ((if z3 = true then p1 else q2), (if z3 = true then s2 + 1 else s2)) ⟨by cases z3 <;> simp <;> omega, by cases z3 <;> simp <;> omega⟩ [0, 1] rfl rfl (by simp [conj]) rfl (by simp [conj, less_rfl, ren_fnr])
theorem medianA_hc (n cap q s : Nat) (hq : 1 ≤ q) (hq2 : q + 1 < n) (hn : n < 1000000) (hs : s < 900) (d : Dt) :
    HC Try.prog 103 [.sq 0 0 0 1 n .no, i64 q, .ptr 1 0] [(1, .cells [i64 s] 3)] (roD n cap d) 2 (fun z : Nat × Nat => q ≤ z.1 + 1 ∧ z.1 ≤ q + 1 ∧ z.2 ≤ s + 3) (fun z => ⟨i64 z.1, [(1, .cells [i64 z.2] 3)], 2⟩) := by
  refine hc_of_run Try.func103 rfl (fun B hB hpin => ?_)
  refine goS hB rfl rfl (by simp [conj, Fits_i64]; omega) ?_
  refine run_callC (median_hc n cap (q - 1) q (q + 1) s (by omega) (by omega) hq2 hn hs d) named hB [0, 1] rfl rfl rfl rfl (by simp [conj]) (by simp [conj, less_rfl, ren_fnr]; omega) ?_
  rintro ⟨z1, z2⟩ ⟨h1, h2⟩
  have h1 : z1 = q - 1 ∨ z1 = q ∨ z1 = q + 1 := h1
  have h2 : z2 ≤ s + 3 := h2
  refine ⟨show 2 ≤ 2 by omega, _, _, _, rfl, rfl, rfl, ?_⟩
  refine goS hB rfl rfl (by simp [conj]) ?_
  exact run_retC hpin (z1, z2) ⟨by show q ≤ z1 + 1; omega, by show z1 ≤ q + 1; omega, h2⟩ [0, 1] rfl rfl (by simp [conj]) rfl (by simp [conj, less_rfl, ren_fnr])
end Sx
