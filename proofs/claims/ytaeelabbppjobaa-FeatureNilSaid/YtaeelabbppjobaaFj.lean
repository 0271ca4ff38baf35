/- The reference's Reset, New, Get. Conditions: as each theorem says. -/
import Derived.Test.YtaeelabbppjobaaFi
set_option linter.unusedSimpArgs false
set_option linter.unusedVariables false
namespace Sx
open Go Go.Proofs
set_option maxRecDepth 100000
/-- The reference's features. -/
def refL (q s : Int) (c : Int → Int) (x : FSt) : List SV := [i64 q, i64 s, u32 (c 1), u32 (c 2), u32 (c 4), u32 (c 5), u32 (c 6), u32 (c 7), u32 (c 8), u32 (c 10), u32 (c 11), u32 (c 15), u32 (c 130), u32 (c 131),
  u32 (x.vs 1), u32 (x.vs 2), u32 (x.vs 4), u32 (x.vs 5), u32 (x.vs 6), u32 (x.vs 7), u32 (x.vs 8), u32 (x.vs 10), u32 (x.vs 11), u32 (x.vs 15), u32 (x.vs 130), u32 (x.vs 131),
  .sb (x.hs 1), .sb (x.hs 2), .sb (x.hs 4), .sb (x.hs 5), .sb (x.hs 6), .sb (x.hs 7), .sb (x.hs 8), .sb (x.hs 10), .sb (x.hs 11), .sb (x.hs 15), .sb (x.hs 130), .sb (x.hs 131), u64 x.host]
abbrev refV (q s : Int) (x : FSt) : SV := .agg (refL q s x.vc x)
/-- The current values after k rounds of Reset. -/
def curK (q : Int) (x : FSt) (k : Int) (a : Int) : Int := bif decide (idxOf a < k) then bif x.hs a then x.vs a else dfl q a else x.vc a
theorem base_dfl {q : Int} (h : 1 ≤ q ∧ q ≤ 65535) : baseOf q 5 = most2 q := by
  have hm : mostV q = q - 1 := by
    simp [mostV, IntKind.wrap, IntKind.signed, IntKind.bits]
    omega
  unfold most2
  show _ = IntKind.u32.wrap ((BitVec.ofInt 32 (IntKind.u32.wrap (mostV q * 65536)) ||| BitVec.ofInt 32 (mostV q)).toNat : Int)
  have e := or_val (q - 1) (q - 1) (by omega) (by omega)
  have e2 : ((BitVec.ofInt 32 (IntKind.u32.wrap (mostV q * 65536)) ||| BitVec.ofInt 32 (mostV q)).toNat) = (q - 1 + 65536 * (q - 1)).toNat := by
    rw [hm, ← e, BitVec.toNat_or, BitVec.toNat_or, Nat.or_comm]
  rw [e2]
  simp [baseOf, IntKind.wrap, IntKind.signed, IntKind.bits]
  omega
theorem refreset_hc (q s : Int) (h : 1 ≤ q ∧ q ≤ 65535) (x : FSt) : HC Try.prog 25 [refV q s x] [] [] 0 (fun _ : Unit => True) (fun _ => ⟨refV q s (x.reset q), [], 0⟩) := by
  refine hc_of_run Try.func25 rfl (fun B hB hpin => ?_)
  refine goK hB s2_ok rfl rfl (by simp [conj]) ?_
  refine run_loop ?_
  refine run_inv (ι := Nat) hpin (fun k => k ≤ 12) (fun k => 12 - k) (fun k => [(3, i64 k), (1, .ptr 0 0), (2, .ptr 1 0)]) (fun _ => [])
    (fun k => [(0, .cells (refL q s (curK q x k) x) 35), (1, .cells [i64 0, i64 0, u32 0, u32 0, u32 0, u32 0, u32 0, u32 0, u32 0, u32 0, u32 0, u32 0, u32 0, u32 0, u32 0, u32 0, u32 0, u32 0, u32 0, u32 0, u32 0, u32 0, u32 0, u32 0, u32 0, u32 0, .ff, .ff, .ff, .ff, .ff, .ff, .ff, .ff, .ff, .ff, .ff, .ff, u64 0] 35)]) 2 0 (by omega)
    [0, 1] rfl rfl (by simp [conj, less_rfl, curK, idxOf]) ?_
  intro k hk ih
  have hk' : k = 12 ∨ k = 0 ∨ k = 1 ∨ k = 2 ∨ k = 3 ∨ k = 4 ∨ k = 5 ∨ k = 6 ∨ k = 7 ∨ k = 8 ∨ k = 9 ∨ k = 10 ∨ k = 11 := by omega
  rcases hk' with e | hk'
  · subst e
    clear ih
    refine goK hB s2_ok rfl rfl (by simp [conj]) ?_
    refine run_condF rfl (by decide) ?_
    refine goK hB s2_ok rfl rfl (by simp [conj]) ?_
    exact run_retC hpin () trivial [] rfl rfl (by simp [conj]) rfl (by simp [conj, less_rfl, curK, idxOf, FSt.reset])
  have hbd := base_dfl h
  rcases hk' with e | e | e | e | e | e | e | e | e | e | e | e
  all_goals
    have ih := ih (k + 1) (by omega) (by omega)
    subst e
    refine goK hB s2_ok rfl rfl (by simp [conj]) ?_
    refine run_condT rfl (by decide) ?_
    refine goK hB s2_ok rfl rfl (by simp [conj, h, Fits_i64]) ?_
    refine run_cond rfl (fun h1 => ?_) (fun h1 => ?_)
    · refine goK hB s2_ok rfl rfl (by simp [conj, h, Fits_i64]) ?_
      refine run_back ?_
      refine run_to hpin [0, 1] rfl rfl (by simp [conj, less_rfl, curK, idxOf, h1]) ih
    · refine goK hB s2_ok rfl rfl (by simp [conj, h, Fits_i64]) ?_
      refine run_back ?_
      refine run_to hpin [0, 1] rfl rfl (by simp [conj, less_rfl, curK, idxOf, h1, dfl, ← hbd, baseOf]) ih
end Sx
