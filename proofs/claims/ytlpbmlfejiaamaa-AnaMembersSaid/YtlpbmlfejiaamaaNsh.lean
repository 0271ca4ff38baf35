/- breakPatternsOrdered swaps. Conditions: as each theorem says. -/
import Derived.Test.YtlpbmlfejiaamaaNse
set_option linter.unusedSimpArgs false
set_option linter.unusedVariables false
namespace Sx
open Go Go.Proofs
set_option maxRecDepth 100000
theorem wrapU (x : Int) : IntKind.u64.wrap x = x % 18446744073709551616 := by
  have e : (2 : Int) ^ IntKind.u64.bits = 18446744073709551616 := by decide
  simp [IntKind.wrap, IntKind.signed, e]
theorem next_hc (x : Int) : HC Try.prog 102 [.ptr 0 0] [(0, .cells [u64 x] 162)] [] 1 (fun y : Int => 0 ≤ y ∧ y < 18446744073709551616) (fun y => ⟨u64 y, [(0, .cells [u64 y] 162)], 1⟩) := by
  refine hc_of_run Try.func102 rfl (fun B hB hpin => ?_)
  refine goS hB rfl rfl (by simp [conj]) ?_
  refine run_retC hpin _ ⟨?_, ?_⟩ [0] rfl rfl (by simp [conj]) rfl (by simp [conj]; rfl)
  · rw [wrapU]; omega
  · rw [wrapU]; omega
theorem pow2_hc (l : Nat) (h0 : 0 < l) (hl : l < 129) : HC Try.prog 101 [i64 l] [] [] 0 (fun m : Nat => 1 ≤ m ∧ m ≤ 2 * l) (fun m => ⟨u64 m, [], 0⟩) := by
  have hw : IntKind.u64.wrap (l : Int) = l := by rw [wrapU]; omega
  refine hc_of_run Try.func101 rfl (fun B hB hpin => ?_)
  refine goS hB rfl rfl (by simp [conj]) ?_
  rw [hw]
  refine run_callC (len_hc l hl) named hB [] rfl rfl rfl rfl (by simp [conj]) (by simp [conj]) ?_
  rintro k ⟨k1, k2, k3⟩
  refine ⟨show 0 ≤ 0 by omega, _, _, _, rfl, rfl, rfl, ?_⟩
  refine goS hB rfl rfl (by simp [conj]) ?_
  have hk := k3 h0
  have hp : (2 : Nat) ^ k ≤ 2 ^ 8 := Nat.pow_le_pow_right (by decide) k1
  refine run_retC hpin (2 ^ k) ⟨Nat.one_le_two_pow, hk⟩ [] rfl rfl (by simp [conj]) rfl ?_
  have e1 : (min ((k : Nat) : Int).toNat IntKind.u64.bits) = k := by
    have : IntKind.u64.bits = 64 := rfl
    rw [this]; omega
  have e2 : ((2 ^ k : Nat) : Int) = 2 ^ k := by simp
  have e3 : IntKind.u64.wrap (1 * 2 ^ (min ((k : Nat) : Int).toNat IntKind.u64.bits)) = ((2 ^ k : Nat) : Int) := by
    rw [e1, ← e2, wrapU]
    omega
  rw [e3]
  simp [conj]
theorem and_lt (y : Int) (m : Nat) (m1 : 1 ≤ m) (m2 : m ≤ 1000) : ∃ o : Nat, o < m ∧ IntKind.i64.wrap (IntKind.u64.wrap ((BitVec.ofInt IntKind.u64.bits y &&& BitVec.ofInt IntKind.u64.bits (IntKind.u64.wrap ((m : Int) - 1))).toNat)) = o := by
  have hbits : IntKind.u64.bits = 64 := rfl
  rw [hbits]
  have e0 : IntKind.u64.wrap ((m : Int) - 1) = ((m - 1 : Nat) : Int) := by rw [wrapU]; omega
  rw [e0, BitVec.ofInt_natCast, BitVec.toNat_and, BitVec.toNat_ofNat, Nat.mod_eq_of_lt (by omega)]
  have h := Nat.and_le_right (n := (BitVec.ofInt 64 y).toNat) (m := m - 1)
  generalize (BitVec.ofInt 64 y).toNat &&& (m - 1) = v at h ⊢
  refine ⟨v, by omega, ?_⟩
  rw [wrapU, Int.emod_eq_of_lt (by omega) (by omega)]
  simp [IntKind.wrap, IntKind.bits, IntKind.signed]
  omega
set_option maxHeartbeats 2000000 in
theorem break_hc (n cap a b : Nat) (hab : a + 12 < b) (hb : b ≤ n) (hn : n < 129) (d : Dt) :
    HC Try.prog 91 [.sq 0 0 0 1 n .no, i64 a, i64 b] (rowD n cap d) [] 1 (fun e : Dt => SW a b d e) (fun e => ⟨.tup [], rowD n cap e, 1⟩) := by
  refine hc_of_run Try.func91 rfl (fun B hB hpin => ?_)
  refine goS hB rfl rfl (by simp [conj, Fits_i64]; omega) ?_
  refine run_condT rfl (by simp; omega) ?_
  refine goS hB rfl rfl (by simp [conj, Fits_i64]; try omega) ?_
  obtain ⟨l, hl⟩ : ∃ l : Nat, (b : Int) - a = l := ⟨b - a, by omega⟩
  rw [hl]
  refine run_callC (pow2_hc l (by omega) (by omega)) named hB [] rfl rfl rfl rfl (by simp [conj]) (by simp [conj]) ?_
  rintro m ⟨m1, m2⟩
  refine ⟨show 0 ≤ 0 by omega, _, _, _, rfl, rfl, rfl, ?_⟩
  refine goS hB rfl rfl (by simp [conj, Fits_i64]; omega) ?_
  refine run_loop ?_
  refine run_inv (ι := Nat × Int × Dt) hpin (fun z => a + l / 4 * 2 ≤ z.1 + 1 ∧ SW a b d z.2.2) (fun z => b - z.1) (fun z => [(9, i64 z.1), (8, u64 m), (7, .ptr 1 0), (6, i64 l), (0, .sq 0 0 0 1 n .no), (1, i64 a)]) (fun _ => []) (fun z => (1, .cells [u64 z.2.1] 162) :: rowD n cap z.2.2) 2 (a + l / 4 * 2 - 1, l, d) ⟨by show a + l / 4 * 2 ≤ a + l / 4 * 2 - 1 + 1; omega, .refl⟩
    [0, 1] rfl rfl (by
      simp [conj, less_rfl, ren_fnr, wrapU]
      omega) ?_
  rintro ⟨i, x, e⟩ ⟨h1, h2⟩ ih
  have h1 : a + l / 4 * 2 ≤ i + 1 := h1
  have h2 : SW a b d e := h2
  refine goS hB rfl rfl (by simp [conj, Fits_i64]; omega) ?_
  refine run_cond rfl (fun hc => ?_) (fun hc => ?_)
  · have hi : i ≤ a + l / 4 * 2 + 1 := by simp at hc; omega
    clear hc
    refine goS hB rfl rfl (by simp [conj]) ?_
    refine run_callC (next_hc x) named hB [1] rfl rfl rfl rfl (by simp [conj]) (by simp [conj, less_rfl]) ?_
    rintro y ⟨y0, y1⟩
    refine ⟨show 1 ≤ 1 by omega, _, _, _, rfl, rfl, rfl, ?_⟩
    refine goS hB rfl rfl (by simp [conj, Fits_i64]; try omega) ?_
    obtain ⟨o, o1, o2⟩ := and_lt y m m1 (by omega)
    rw [o2]
    refine run_cond rfl (fun hc => ?_) (fun hc => ?_)
    · have ho : l ≤ o := by simp at hc; omega
      have z0 : 0 + ((i : Nat) : Int).toNat = i := by omega
      have z1 : 0 + ((a : Int) + ((o : Int) - (l : Int))).toNat = a + (o - l) := by omega
      have ih := ih (i + 1, y, swp e i (a + (o - l))) ⟨by show a + l / 4 * 2 ≤ i + 1 + 1; omega, .step i (a + (o - l)) h2 (by omega) (by omega) (by omega) (by omega)⟩ (by show b - (i + 1) < b - i; omega)
      refine goS hB rfl rfl (by simp [conj, Fits_i64]; omega) ?_
      refine run_back ?_
      refine run_to hpin [0, 1] rfl rfl ?_ ih
      clear ih
      simp only [z0, z1]
      simp [conj, less_rfl, ren_fnr, renR_fnr]
      exact fun k _ => Less.of (swp_upd e i (a + (o - l)) k).symm
    · have ho : o < l := by simp at hc; omega
      have z0 : 0 + ((i : Nat) : Int).toNat = i := by omega
      have z1 : 0 + ((a : Int) + (o : Int)).toNat = a + (o) := by omega
      have ih := ih (i + 1, y, swp e i (a + (o))) ⟨by show a + l / 4 * 2 ≤ i + 1 + 1; omega, .step i (a + (o)) h2 (by omega) (by omega) (by omega) (by omega)⟩ (by show b - (i + 1) < b - i; omega)
      refine goS hB rfl rfl (by simp [conj, Fits_i64]; omega) ?_
      refine run_back ?_
      refine run_to hpin [0, 1] rfl rfl ?_ ih
      clear ih
      simp only [z0, z1]
      simp [conj, less_rfl, ren_fnr, renR_fnr]
      exact fun k _ => Less.of (swp_upd e i (a + (o)) k).symm
  · clear ih
    refine goS hB rfl rfl (by simp [conj]) ?_
    exact run_endC hpin e h2 [0] rfl rfl (by simp [conj]) rfl (by simp [conj, less_rfl, ren_fnr])
end Sx
