/- valid of package reserve. Conditions: as each theorem says. -/
import Derived.Test.YtmnlmghchegjaaaRg
set_option linter.unusedSimpArgs false
set_option linter.unusedVariables false
namespace Sx
open Go Go.Proofs
set_option maxRecDepth 100000
abbrev Reg := Int × Int × Bool
def regD (R : List Reg) (i : Nat) : Reg := R.getD i (0, 0, false)
/-- Registrations. -/
def regR (R : List Reg) : Nat → Nat → SV := fun i k => match k with
  | 0 => u64 (regD R i).1
  | 1 => u64 (regD R i).2.1
  | _ => .sb (regD R i).2.2
theorem ren_regR (nx : Nat) (sg : List Nat) (R : List Reg) (i k : Nat) : ren nx sg (regR R i k) = regR R i k := by
  unfold regR; split <;> simp only [ren, renF, id]
theorem renR_regR (nx : Nat) (sg : List Nat) (R : List Reg) : renR nx sg (regR R) = regR R := by funext i k; exact ren_regR nx sg R i k
abbrev repL (G T : Int) (p : Bool) (r n : Nat) (ap : Ap) (off : Nat := 0) : List SV := [.int .u32 G, i64 T, .sb p, .sq r off 0 3 n ap]
abbrev rep (G T : Int) (p : Bool) (r n : Nat) (ap : Ap) (off : Nat := 0) : SV := .agg (repL G T p r n ap off)
def lastR (R : List Reg) (i : Nat) : Int := match i with
  | 0 => 0
  | j + 1 => (regD R j).1
def cntH (R : List Reg) (i : Nat) : Nat := (List.range i).countP fun j => (regD R j).2.2
theorem cntH_succ (R : List Reg) (i : Nat) : cntH R (i + 1) = cntH R i + if (regD R i).2.2 = true then 1 else 0 := by
  unfold cntH
  rw [List.range_succ, List.countP_append]
  simp [List.countP_cons]
theorem cntH_le (R : List Reg) (i : Nat) : cntH R i ≤ i := by
  unfold cntH
  have := List.countP_le_length (p := fun j => (regD R j).2.2) (l := List.range i)
  simpa using this
/-- A report is valid. -/
structure VOk (T : Int) (R : List Reg) : Prop where
  up : ∀ i, i < R.length → lastR R i < (regD R i).1 ∧ (regD R i).2.1 ≠ 0
  len : R.length ≤ 128
  t0 : 0 ≤ T
  t6 : T ≤ 6
  all : 5 ≤ T → 0 < R.length ∧ cntH R R.length = R.length
  one : T < 5 → (cntH R R.length : Int) = min 1 T
theorem valid_hc (G T : Int) (p : Bool) (R : List Reg) (hv : VOk T R) (cap : Nat) :
    HC Try.prog 57 [rep G T p 0 R.length .no] [] [(0, .row 0 R.length cap 3 (regR R) anyTy)] 1 (fun _ : Unit => True) (fun _ => ⟨.tt, [], 1⟩) := by
  have hlen := hv.len
  refine hc_of_run Try.func57 rfl (fun B hB hpin => ?_)
  refine goB hB rfl rfl (by simp [conj]) ?_
  refine run_loop ?_
  refine run_inv (ι := Nat) hpin (fun i => i ≤ R.length) (fun i => R.length - i) (fun i => [(11, i64 i), (10, i64 R.length), (9, .sq 0 0 0 3 R.length .no), (3, u64 (lastR R i)), (4, i64 (cntH R i)), (1, .ptr 1 0), (2, .ff)]) (fun _ => []) (fun _ => [(1, .cells (repL G T p 0 R.length .no) 67)]) 2 0 (Nat.zero_le _)
    [0, 1] rfl rfl (by simp [conj, less_rfl, ren_regR, lastR, cntH]) ?_
  intro i hi ih
  refine goB hB rfl rfl (by simp [conj]) ?_
  refine run_cond rfl (fun h => ?_) (fun h => ?_)
  · have hi1 : i < R.length := by simpa using h
    have ih := ih (i + 1) (by omega) (by omega)
    obtain ⟨u1, u2⟩ := hv.up i hi1
    have hcs := cntH_succ R i
    have hcl := cntH_le R i
    refine goB hB rfl rfl (by simp [conj]; omega) ?_
    refine run_condF rfl (by simp [u2]; omega) ?_
    refine goB hB rfl rfl (by simp [conj]; try omega) ?_
    refine run_cond rfl (fun hh => ?_) (fun hh => ?_)
    · have hh' : (regD R i).2.2 = true := by simpa using hh
      rw [if_pos hh'] at hcs
      refine goB hB rfl rfl (by simp [conj, Fits_i64]; omega) ?_
      refine run_back ?_
      refine run_to hpin [0, 1] rfl rfl ?_ ih
      clear ih
      simp [conj, less_rfl, ren_regR, lastR, hcs]
    · have hh' : (regD R i).2.2 = false := by simpa using hh
      rw [hh'] at hcs
      refine goB hB rfl rfl (by simp [conj, Fits_i64]; omega) ?_
      refine run_back ?_
      refine run_to hpin [0, 1] rfl rfl ?_ ih
      clear ih
      simp at hcs
      simp [conj, less_rfl, ren_regR, lastR, hcs]
  · clear ih
    have : i = R.length := by simp at h; omega
    subst this
    refine goB hB rfl rfl (by simp [conj]) ?_
    refine run_condF rfl (by simp; have := hv.t0; have := hv.t6; omega) ?_
    refine goB hB rfl rfl (by simp [conj]) ?_
    refine run_cond rfl (fun ht => ?_) (fun ht => ?_)
    · obtain ⟨a1, a2⟩ := hv.all (by simpa using ht)
      refine goB hB rfl rfl (by simp [conj]) ?_
      refine run_retC hpin () trivial [0] rfl rfl (by simp [conj]) rfl ?_
      simp [conj, less_rfl, ren_regR, a2]
      omega
    · have a1 := hv.one (by simp at ht; omega)
      refine goB hB rfl rfl (by simp [conj]) ?_
      refine run_retC hpin () trivial [0] rfl rfl (by simp [conj]) rfl ?_
      simp [conj, less_rfl, ren_regR, a1]
end Sx
