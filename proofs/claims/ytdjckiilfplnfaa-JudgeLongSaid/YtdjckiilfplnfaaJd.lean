/- Package judge: Valid. Conditions: as each theorem says. -/
import Derived.Test.YtdjckiilfplnfaaJc
set_option linter.unusedSimpArgs false
set_option linter.unusedVariables false
namespace Sx
open Go Go.Proofs
set_option maxRecDepth 100000
set_option pp.deepTerms true
set_option pp.maxSteps 10000000
/-- A valid history. -/
structure VHi (H : Hi) : Prop where
  u1 : 1 ≤ H.unit
  u8 : H.unit ≤ 8
  b1 : 1 ≤ H.blocks
  b2 : H.blocks ≤ 4096
  mod : H.blocks % H.unit = 0
  c0 : ∀ i, i < H.nc → 0 ≤ H.c i
  cs : SortC H
  ops : ∀ i, i < H.m → VOp H (H.op i)
set_option maxHeartbeats 4000000 in
theorem valid_hck {K : Kn} {H : Hi} {vo vc : Value} {V : Nat → Value} (h : HOK K H vo vc V) (b : Bool) (hb : b = true ↔ VHi H) :
    HCK Try.prog K 18 [hA H vo vc] [] [] 0 (fun _ : Unit => True) (fun _ => ⟨.sb b, [], 0⟩) := by
  have hnc := h.nc
  have no : ¬ VHi H → b = false := fun q => by
    cases e : b with
    | false => rfl
    | true => exact absurd (hb.1 e) q
  refine hck_of_run Try.func18 rfl (fun B hB hK hpin => ?_)
  refine goT hB [(18, 7)] 400 rfl (by first | exact conj_nil | simp [conj]) ?_
  by_cases q0 : H.unit < 1
  · refine run_tt (by simpa using q0) ?_
    have hv : b = false := no fun g => by have := g.u1; omega
    refine goT hB [] 400 rfl (by first | exact conj_nil | simp [conj]) ?_
    refine run_retC hpin () trivial [] rfl rfl (by first | exact conj_nil | simp [conj]) rfl ?_
    simp [conj, less_rfl, hv]
  refine run_ff (by simpa using q0) ?_
  refine goT hB [(18, 11)] 400 rfl (by first | exact conj_nil | simp [conj]) ?_
  by_cases q1 : 8 < H.unit
  · refine run_tt (by simpa using q1) ?_
    have hv : b = false := no fun g => by have := g.u8; omega
    refine goT hB [] 400 rfl (by first | exact conj_nil | simp [conj]) ?_
    refine run_retC hpin () trivial [] rfl rfl (by first | exact conj_nil | simp [conj]) rfl ?_
    simp [conj, less_rfl, hv]
  refine run_ff (by simpa using q1) ?_
  refine goT hB [(18, 16)] 400 rfl (by first | exact conj_nil | simp [conj]) ?_
  by_cases q2 : H.blocks < 1
  · refine run_tt (by simpa using q2) ?_
    have hv : b = false := no fun g => by have := g.b1; omega
    refine goT hB [] 400 rfl (by first | exact conj_nil | simp [conj]) ?_
    refine run_retC hpin () trivial [] rfl rfl (by first | exact conj_nil | simp [conj]) rfl ?_
    simp [conj, less_rfl, hv]
  refine run_ff (by simpa using q2) ?_
  refine goT hB [(18, 21)] 400 rfl (by first | exact conj_nil | simp [conj]) ?_
  by_cases q3 : 4096 < H.blocks
  · refine run_tt (by simpa using q3) ?_
    have hv : b = false := no fun g => by have := g.b2; omega
    refine goT hB [] 400 rfl (by first | exact conj_nil | simp [conj]) ?_
    refine run_retC hpin () trivial [] rfl rfl (by first | exact conj_nil | simp [conj]) rfl ?_
    simp [conj, less_rfl, hv]
  refine run_ff (by simpa using q3) ?_
  refine goT hB [(18, 29)] 400 rfl (by simp [conj]; omega) ?_
  by_cases q4 : H.blocks % H.unit = 0
  rotate_left
  · refine run_tt (by simpa using q4) ?_
    have hv : b = false := no fun g => q4 g.mod
    refine goT hB [] 400 rfl (by first | exact conj_nil | simp [conj]) ?_
    refine run_retC hpin () trivial [] rfl rfl (by first | exact conj_nil | simp [conj]) rfl ?_
    simp [conj, less_rfl, hv]
  refine run_ff (by simpa using q4) ?_
  refine goT hB [] 400 rfl (by first | exact conj_nil | simp [conj]) ?_
  refine run_open hK 32 h.c (by decide) rfl (fun oc => ?_)
  refine goT hB [] 400 rfl (by first | exact conj_nil | simp [conj]) ?_
  refine run_loop ?_
  refine run_inv (ι := Nat) hpin (fun i => i ≤ H.nc ∧ ∀ j, j < i → 0 ≤ H.c j ∧ (0 < j → H.c (j - 1) < H.c j)) (fun i => H.nc - i) (fun i => [(34, i64 i), (33, i64 H.nc), (32, .sq 1 oc 0 1 H.nc .no), (1, .ptr 0 0)]) (fun _ => []) (fun _ => [(0, hC H vo vc)]) 2 0 ⟨Nat.zero_le _, fun j hj => absurd hj (Nat.not_lt_zero _)⟩ [0, 1] rfl rfl (by simp [conj, less_rfl, ren_urow, renR_urow]) ?_
  rintro i ⟨hi, hall⟩ ih
  refine goT hB [(18, 35)] 400 rfl (by clear ih; first | exact conj_nil | simp [conj]) ?_
  by_cases hin : i < H.nc
  · have e0 : 0 + ((i : Nat) : Int).toNat = i := by omega
    refine run_tt (by simpa using hin) ?_
    refine goT hB [(18, 40)] 400 rfl (by clear ih; simp [conj, hin]) ?_
    rw [e0]
    by_cases q5 : H.c i < 0
    · clear ih
      refine run_tt (by simpa using q5) ?_
      have hv : b = false := no fun g => by have := g.c0 i hin; omega
      refine goT hB [] 400 rfl (by first | exact conj_nil | simp [conj]) ?_
      refine run_close (.inl rfl) ?_
      refine run_retC hpin () trivial [] rfl rfl (by first | exact conj_nil | simp [conj]) rfl ?_
      simp [conj, less_rfl, hv]
    refine run_ff (by simpa using q5) ?_
    refine goT hB [(18, 43)] 400 rfl (by clear ih; simp [conj]) ?_
    by_cases q6 : 0 < i
    · refine run_tt (by simpa using q6) ?_
      refine goT hB [] 400 rfl (by clear ih; simp [conj, Fits_i64]; omega) ?_
      refine run_open hK 47 h.c (by decide) rfl (fun oc2 => ?_)
      refine goT hB [(18, 52)] 400 rfl (by clear ih; simp [conj, Fits_i64]; omega) ?_
      have e1 : 0 + ((i : Nat) - 1 : Int).toNat = i - 1 := by omega
      rw [e1]
      by_cases q7 : H.c i ≤ H.c (i - 1)
      · clear ih
        refine run_tt (by simpa using q7) ?_
        have hv : b = false := no fun g => by
          have := g.cs (i - 1) (by omega)
          rw [show i - 1 + 1 = i by omega] at this
          omega
        refine goT hB [] 400 rfl (by first | exact conj_nil | simp [conj]) ?_
        refine run_close (.inl rfl) ?_
        refine run_close (.inl rfl) ?_
        refine run_retC hpin () trivial [] rfl rfl (by first | exact conj_nil | simp [conj]) rfl ?_
        simp [conj, less_rfl, hv]
      refine run_ff (by simpa using q7) ?_
      have ih := ih (i + 1) ⟨by omega, fun j hj => by
        rcases Nat.eq_or_lt_of_le (Nat.le_of_lt_succ hj) with e | e
        · rw [e]; exact ⟨by omega, fun _ => by omega⟩
        · exact hall j e⟩ (by omega)
      refine goT hB [] 400 rfl (by clear ih; simp [conj, Fits_i64]; omega) ?_
      refine run_back ?_
      refine run_close (.inl rfl) ?_
      refine run_to hpin [0, 1] rfl rfl ?_ ih
      clear ih
      simp [conj, less_rfl, ren_urow, renR_urow]
    · refine run_ff (by simpa using q6) ?_
      have ih := ih (i + 1) ⟨by omega, fun j hj => by
        rcases Nat.eq_or_lt_of_le (Nat.le_of_lt_succ hj) with e | e
        · rw [e]; exact ⟨by omega, fun _ => by omega⟩
        · exact hall j e⟩ (by omega)
      refine goT hB [] 400 rfl (by clear ih; simp [conj, Fits_i64]; omega) ?_
      refine run_back ?_
      refine run_to hpin [0, 1] rfl rfl ?_ ih
      clear ih
      simp [conj, less_rfl, ren_urow, renR_urow]
  · clear ih
    have hin : i = H.nc := by omega
    subst hin
    have hs : SortC H := fun j hj => by have := (hall (j + 1) hj).2 (by omega); rw [Nat.add_sub_cancel] at this; exact this
    have hbv : b = true ↔ ∀ i, i < H.m → VOp H (H.op i) := hb.trans ⟨fun g => g.ops, fun g => ⟨by omega, by omega, by omega, by omega, q4, fun j hj => (hall j hj).1, hs, g⟩⟩
    refine run_ff (by simp) ?_
    refine goT hB [] 400 rfl (by first | exact conj_nil | simp [conj]) ?_
    refine run_callCK (someNot_hck h hs ⟨by omega, by omega⟩ b hbv) named hB hK [0] rfl rfl rfl rfl (by first | exact conj_nil | simp [conj]) (by simp [conj, less_rfl]) ?_
    rintro ⟨⟩ _
    refine ⟨show 1 ≤ 1 by omega, _, _, _, rfl, rfl, rfl, ?_⟩
    refine goJ hB rfl rfl (by simp [conj, isBo4]) ?_
    refine run_close (.inl rfl) ?_
    refine run_retC hpin () trivial [] rfl rfl (by first | exact conj_nil | simp [conj]) rfl ?_
    simp [conj, less_rfl]
end Sx
