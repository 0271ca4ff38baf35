/- valid of package reserve and Valid of the reference, for any report. Conditions: as each theorem says. -/
import Derived.Test.YtmnlmghchegjaaaRj
set_option linter.unusedSimpArgs false
set_option linter.unusedVariables false
namespace Sx
open Go Go.Proofs Classical
set_option maxRecDepth 100000
set_option pp.deepTerms true
set_option pp.maxSteps 10000000
/-- The first n registrations are in order. -/
def UpTo (R : List Reg) (n : Nat) : Prop := ∀ i, i < n → lastR R i < (regD R i).1 ∧ (regD R i).2.1 ≠ 0
theorem vok_iff (T : Int) (R : List Reg) : VOk T R ↔ UpTo R R.length ∧ R.length ≤ 128 ∧ 0 ≤ T ∧ T ≤ 6 ∧ (5 ≤ T → 0 < R.length ∧ cntH R R.length = R.length) ∧ (T < 5 → (cntH R R.length : Int) = min 1 T) :=
  ⟨fun h => ⟨h.up, h.len, h.t0, h.t6, h.all, h.one⟩, fun ⟨a, b, c, d, e, f⟩ => ⟨a, b, c, d, e, f⟩⟩
theorem upTo_succ {R : List Reg} {i : Nat} (h : UpTo R i) (h1 : lastR R i < (regD R i).1) (h2 : (regD R i).2.1 ≠ 0) : UpTo R (i + 1) := fun j hj => by
  by_cases e : j = i
  · subst e; exact ⟨h1, h2⟩
  · exact h j (by omega)
theorem validG_hc (G T : Int) (p : Bool) (R : List Reg) (hlen : R.length < 1000000) (hT : Fits .i64 T) (cap : Nat) (off : Nat := 0) :
    HC Try.prog 57 [rep G T p 0 R.length .no off] [] [(0, .row off R.length cap 3 (regR R) anyTy)] 1 (fun _ : Unit => True) (fun _ => ⟨.sb (decide (VOk T R)), [], 1⟩) := by
  refine hc_of_run Try.func57 rfl (fun B hB hpin => ?_)
  refine goB hB rfl rfl (by simp [conj]) ?_
  refine run_loop ?_
  refine run_inv (ι := Nat) hpin (fun i => i ≤ R.length ∧ UpTo R i) (fun i => R.length - i) (fun i => [(11, i64 i), (10, i64 R.length), (9, .sq 0 off 0 3 R.length .no), (3, u64 (lastR R i)), (4, i64 (cntH R i)), (1, .ptr 1 0), (2, .ff)]) (fun _ => []) (fun _ => [(1, .cells (repL G T p 0 R.length .no off) 67)]) 2 0 ⟨Nat.zero_le _, fun i hi => absurd hi (Nat.not_lt_zero i)⟩
    [0, 1] rfl rfl (by simp [conj, less_rfl, ren_regR, lastR, cntH]) ?_
  rintro i ⟨hi, hup⟩ ih
  refine goB hB rfl rfl (by simp [conj]) ?_
  refine run_cond rfl (fun h => ?_) (fun h => ?_)
  · have hi1 : i < R.length := by simpa using h
    have hcs := cntH_succ R i
    have hcl := cntH_le R i
    refine goB hB rfl rfl (by simp [conj]; omega) ?_
    refine run_cond rfl (fun hb => ?_) (fun hb => ?_)
    · clear ih
      refine goB hB rfl rfl (by simp [conj]) ?_
      refine run_retC hpin () trivial [0] rfl rfl (by simp [conj]) rfl ?_
      have : ¬ VOk T R := fun hv => by
        obtain ⟨u1, u2⟩ := hv.up i hi1
        simp [u2] at hb
        omega
      simp [conj, less_rfl, ren_regR, this]
    have hb' : lastR R i < (regD R i).1 ∧ (regD R i).2.1 ≠ 0 := by
      simp at hb
      exact hb
    have ih := ih (i + 1) ⟨by omega, upTo_succ hup hb'.1 hb'.2⟩ (by omega)
    refine goB hB rfl rfl (by simp [conj]; try omega) ?_
    refine run_cond rfl (fun hh => ?_) (fun hh => ?_)
    · have hh' : (regD R i).2.2 = true := by simpa using hh
      rw [if_pos hh'] at hcs
      refine goB hB rfl rfl (by simp [conj, Fits_i64]; omega) ?_
      refine run_back ?_
      refine run_to hpin [0, 1] rfl rfl ?_ ih
      clear ih
      simp [conj, less_rfl, ren_regR, lastR, hcs]
    · have hh' : (regD R i).2.2 = false := by simpa using hh
      rw [hh'] at hcs
      refine goB hB rfl rfl (by simp [conj, Fits_i64]; omega) ?_
      refine run_back ?_
      refine run_to hpin [0, 1] rfl rfl ?_ ih
      clear ih
      simp at hcs
      simp [conj, less_rfl, ren_regR, lastR, hcs]
  · clear ih
    have : i = R.length := by simp at h; omega
    subst this
    have hvi := vok_iff T R
    refine goB hB rfl rfl (by simp [conj]) ?_
    refine run_cond rfl (fun hb => ?_) (fun hb => ?_)
    · refine goB hB rfl rfl (by simp [conj]) ?_
      refine run_retC hpin () trivial [0] rfl rfl (by simp [conj]) rfl ?_
      have : ¬ VOk T R := fun hv => by
        have := hv.len
        have := hv.t0
        have := hv.t6
        simp at hb
        omega
      simp [conj, less_rfl, ren_regR, this]
    have hb' : R.length ≤ 128 ∧ 0 ≤ T ∧ T ≤ 6 := by
      simp at hb
      omega
    obtain ⟨b1, b2, b3⟩ := hb'
    refine goB hB rfl rfl (by simp [conj]) ?_
    refine run_cond rfl (fun ht => ?_) (fun ht => ?_)
    · have ht' : 5 ≤ T := by simpa using ht
      refine goB hB rfl rfl (by simp [conj]) ?_
      refine run_retC hpin () trivial [0] rfl rfl (by simp [conj]) rfl ?_
      have hv : VOk T R ↔ 0 < R.length ∧ cntH R R.length = R.length := by
        rw [hvi]
        exact ⟨fun h => h.2.2.2.2.1 ht', fun h => ⟨hup, b1, b2, b3, fun _ => h, fun q => by omega⟩⟩
      have e1 : decide ((cntH R R.length : Int) = (R.length : Int)) = decide (cntH R R.length = R.length) := by
        rw [Bool.eq_iff_iff]; simp; omega
      simp [conj, less_rfl, ren_regR, hv, e1]
    · have ht' : T < 5 := by simpa using ht
      refine goB hB rfl rfl (by simp [conj]) ?_
      refine run_retC hpin () trivial [0] rfl rfl (by simp [conj]) rfl ?_
      have hv : VOk T R ↔ (cntH R R.length : Int) = min 1 T := by
        rw [hvi]
        exact ⟨fun h => h.2.2.2.2.2 ht', fun h => ⟨hup, b1, b2, b3, fun q => by omega, fun _ => h⟩⟩
      simp [conj, less_rfl, ren_regR, hv]
      try omega
def modeV : Mode := { st := true, unr := false, inl := fun f => !hasN f [37, 38, 81, 87, 85, 24, 26, 27, 28, 29, 53, 55, 57, 58, 59, 60, 61, 62, 63, 73, 78, 79, 80, 83], sum := sumOf [], keep := fun _ => none }
theorem goV2 {B : Base} (hB : B.ok) {ro : Hp} {f : FuncId} {R : Ending → World → Prop} {cs0 cs : List Prop} {c c0 c' : Cfg} (h0 : stepD Try.prog modeV ro c = some (cs0, c0)) (h : execG Try.prog modeV ro 400 cs0 c0 = (cs, c')) (hc : conj cs)
    (hr : Run Try.prog ro B f R c') : Run Try.prog ro B f R c := run_go mixed named hB (sumOk_nil _) 400 h0 h hc hr
theorem validR_hc (G T : Int) (p : Bool) (R : List Reg) (hlen : R.length < 1000000) (hT : Fits .i64 T) (h0 : ∀ i, i < R.length → 0 ≤ (regD R i).1) (cap : Nat) (off : Nat := 0) :
    HC Try.prog 28 [rep G T p 0 R.length .no off] [] [(0, .row off R.length cap 3 (regR R) anyTy)] 1 (fun _ : Unit => True) (fun _ => ⟨.sb (decide (VOk T R)), [], 1⟩) := by
  refine hc_of_run Try.func28 rfl (fun B hB hpin => ?_)
  refine goV2 hB rfl rfl (by simp [conj]) ?_
  refine run_loop ?_
  refine run_inv (ι := Nat) hpin (fun i => i ≤ R.length ∧ UpTo R i) (fun i => R.length - i) (fun i => [(4, i64 i), (3, i64 (cntH R i)), (1, .ptr 1 0), (2, .ff)]) (fun _ => []) (fun _ => [(1, .cells (repL G T p 0 R.length .no off) 67)]) 2 0 ⟨Nat.zero_le _, fun i hi => absurd hi (Nat.not_lt_zero i)⟩
    [0, 1] rfl rfl (by simp [conj, less_rfl, ren_regR, lastR, cntH]) ?_
  rintro i ⟨hi, hup⟩ ih
  refine goV2 hB rfl rfl (by simp [conj]) ?_
  refine run_cond rfl (fun h => ?_) (fun h => ?_)
  · have hi1 : i < R.length := by simpa using h
    have hcs := cntH_succ R i
    have hcl := cntH_le R i
    refine goV2 hB rfl rfl (by
      simp [conj, Fits_i64]
      repeat' apply And.intro
      all_goals first | omega | (intros; omega)) ?_
    have hg : (lastR R i < (regD R i).1 ∧ (regD R i).2.1 ≠ 0) ↔ ((regD R i).1 ≠ 0 ∧ (regD R i).2.1 ≠ 0 ∧ (0 < i → (regD R (i - 1)).1 < (regD R i).1)) := by
      have q0 := h0 i hi1
      cases i with
      | zero => simp [lastR]; omega
      | succ j =>
        have q1 := h0 j (by omega)
        simp [lastR]
        omega
    have e1 : ((i : Int) - 1).toNat = i - 1 := by omega
    refine run_cond rfl (fun hb => ?_) (fun hb => ?_)
    · clear ih
      refine goV2 hB rfl rfl (by simp [conj]) ?_
      refine run_retC hpin () trivial [0] rfl rfl (by simp [conj]) rfl ?_
      have : ¬ VOk T R := fun hv => by
        obtain ⟨u1, u2, u3⟩ := hg.1 (hv.up i hi1)
        simp [u1, u2, e1] at hb
        have := u3 (by omega)
        omega
      simp [conj, less_rfl, ren_regR, this]
    have hb' : lastR R i < (regD R i).1 ∧ (regD R i).2.1 ≠ 0 := by
      rw [hg]
      simp [e1] at hb
      exact ⟨hb.1.1, hb.1.2, hb.2⟩
    have ih := ih (i + 1) ⟨by omega, upTo_succ hup hb'.1 hb'.2⟩ (by omega)
    refine goV2 hB rfl rfl (by simp [conj]; try omega) ?_
    refine run_cond rfl (fun hh => ?_) (fun hh => ?_)
    · have hh' : (regD R i).2.2 = true := by simpa using hh
      rw [if_pos hh'] at hcs
      refine goV2 hB rfl rfl (by simp [conj, Fits_i64]; omega) ?_
      refine run_back ?_
      refine run_to hpin [0, 1] rfl rfl ?_ ih
      clear ih
      simp [conj, less_rfl, ren_regR, lastR, hcs]
    · have hh' : (regD R i).2.2 = false := by simpa using hh
      rw [hh'] at hcs
      refine goV2 hB rfl rfl (by simp [conj, Fits_i64]; omega) ?_
      refine run_back ?_
      refine run_to hpin [0, 1] rfl rfl ?_ ih
      clear ih
      simp at hcs
      simp [conj, less_rfl, ren_regR, lastR, hcs]
  · clear ih
    have : i = R.length := by simp at h; omega
    subst this
    have hvi := vok_iff T R
    refine goV2 hB rfl rfl (by simp [conj]) ?_
    refine run_cond rfl (fun hb => ?_) (fun hb => ?_)
    · refine goV2 hB rfl rfl (by simp [conj]) ?_
      refine run_retC hpin () trivial [0] rfl rfl (by simp [conj]) rfl ?_
      have : ¬ VOk T R := fun hv => by
        have := hv.len
        have := hv.t0
        have := hv.t6
        simp at hb
        omega
      simp [conj, less_rfl, ren_regR, this]
    have hb' : R.length ≤ 128 ∧ 0 ≤ T ∧ T ≤ 6 := by
      simp at hb
      omega
    obtain ⟨b1, b2, b3⟩ := hb'
    refine goV2 hB rfl rfl (by simp [conj]) ?_
    refine run_cond rfl (fun ht => ?_) (fun ht => ?_)
    · have ht' : T = 0 := by simpa using ht
      refine goV2 hB rfl rfl (by simp [conj]) ?_
      refine run_retC hpin () trivial [0] rfl rfl (by simp [conj]) rfl ?_
      have hv : VOk T R ↔ cntH R R.length = 0 := by
        rw [hvi]
        exact ⟨fun h => by have := h.2.2.2.2.2 (by omega); omega, fun h => ⟨hup, b1, b2, b3, fun q => by omega, fun _ => by omega⟩⟩
      simp [conj, less_rfl, ren_regR, hv]
      try omega
    have ht0 : T ≠ 0 := by simpa using ht
    refine goV2 hB rfl rfl (by simp [conj]) ?_
    refine run_cond rfl (fun ht => ?_) (fun ht => ?_)
    · have ht' : T < 5 := by simpa using ht
      refine goV2 hB rfl rfl (by simp [conj]) ?_
      refine run_retC hpin () trivial [0] rfl rfl (by simp [conj]) rfl ?_
      have hv : VOk T R ↔ cntH R R.length = 1 := by
        rw [hvi]
        exact ⟨fun h => by have := h.2.2.2.2.2 (by omega); omega, fun h => ⟨hup, b1, b2, b3, fun q => by omega, fun _ => by omega⟩⟩
      simp [conj, less_rfl, ren_regR, hv]
      try omega
    · have ht' : 5 ≤ T := by simpa using ht
      refine goV2 hB rfl rfl (by simp [conj]) ?_
      refine run_retC hpin () trivial [0] rfl rfl (by simp [conj]) rfl ?_
      have hv : VOk T R ↔ 0 < R.length ∧ cntH R R.length = R.length := by
        rw [hvi]
        exact ⟨fun h => h.2.2.2.2.1 ht', fun h => ⟨hup, b1, b2, b3, fun _ => h, fun q => by omega⟩⟩
      have e1 : decide ((cntH R R.length : Int) = (R.length : Int)) = decide (cntH R R.length = R.length) := by
        rw [Bool.eq_iff_iff]; simp; omega
      simp [conj, less_rfl, ren_regR, hv, e1]
end Sx
