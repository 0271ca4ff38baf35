/- The law's small. Conditions: as each theorem says. -/
import Derived.Test.YtdjckiilfplnfaaJxg
import Derived.Test.YtdjckiilfplnfaaJxi
set_option linter.unusedSimpArgs false
set_option linter.unusedVariables false
namespace Sx
open Go Go.Proofs
set_option maxRecDepth 100000
set_option pp.deepTerms true
set_option pp.maxSteps 10000000
/-- How a history of any length lies. -/
structure HOK0 (K : Kn) (H : Hi) (vo vc : Value) (V : Nat → Value) : Prop where
  o : Froz K vo H.m 6 (orow H V)
  c : Froz K vc H.nc 1 (urow H.c)
  v : ∀ i, i < H.m → Froz K (V i) (H.op i).n 1 (urow (H.op i).v)
  z : ∀ i, H.m ≤ i → (H.op i).n = 0
  u : Fits .i64 H.unit ∧ Fits .i64 H.blocks
  f : ∀ i, i < H.m → Fits .i64 (H.op i).f
  m : H.m ≤ 9223372036854775807
  nc : H.nc ≤ 9223372036854775807
theorem HOK0.ok {K : Kn} {H : Hi} {vo vc : Value} {V : Nat → Value} (h : HOK0 K H vo vc V) (h1 : H.m ≤ 14) (h2 : H.nc ≤ 3) (h3 : ∀ i, i < H.m → (H.op i).n ≤ 40) : HOK K H vo vc V :=
  ⟨h.o, h.c, h.v, by omega, by omega, fun i => by
    rcases Nat.lt_or_ge i H.m with q | q
    · have := h3 i q; omega
    · rw [h.z i q]; omega⟩
structure Small (H : Hi) : Prop where
  m : H.m ≤ 14
  nc : H.nc ≤ 3
  n : ∀ i, i < H.m → (H.op i).n ≤ 40
  v : VHi H → H.blocks ≤ 16 ∧ ∀ u, u < nU H → ∀ e, e ≤ H.nc → lenE H (u : Nat) e ≤ 5
set_option maxHeartbeats 4000000 in
theorem small_hck {K : Kn} {H : Hi} {vo vc : Value} {V : Nat → Value} (h : HOK0 K H vo vc V) (b : Bool) (hb : b = true ↔ Small H) :
    HCK Try.prog K 11 [hA H vo vc] [] [] 0 (fun (_ : Unit) => True) (fun _ => ⟨.sb b, [], 0⟩) := by
  have hm63 := h.m
  have hc63 := h.nc
  have nob : ¬ Small H → b = false := fun q => by
    cases e : b with
    | false => rfl
    | true => exact absurd (hb.1 e) q
  refine hck_of_run Try.func11 rfl (fun B hB hK hpin => ?_)
  refine goT hB [] 400 rfl (by first | exact conj_nil | simp [conj]) ?_
  refine run_open hK 6 h.o (by decide) rfl (fun o1 => ?_)
  refine goT hB [(11, 8)] 400 rfl (by first | exact conj_nil | simp [conj]) ?_
  refine run_close (.inl rfl) ?_
  by_cases q1 : 14 < H.m
  · have hbf := nob fun g => by have := g.m; omega
    rw [hbf]
    refine run_tt (by simp; omega) ?_
    refine goT hB [] 400 rfl (by first | exact conj_nil | simp [conj]) ?_
    refine run_retC hpin () trivial [] rfl rfl (by first | exact conj_nil | simp [conj]) rfl ?_
    simp [conj, less_rfl]
  refine run_ff (by simp; omega) ?_
  refine goT hB [] 400 rfl (by first | exact conj_nil | simp [conj]) ?_
  refine run_open hK 11 h.c (by decide) rfl (fun o2 => ?_)
  refine goT hB [(11, 13)] 400 rfl (by first | exact conj_nil | simp [conj]) ?_
  refine run_close (.inl rfl) ?_
  by_cases q2 : 3 < H.nc
  · have hbf := nob fun g => by have := g.nc; omega
    rw [hbf]
    refine run_tt (by simp; omega) ?_
    refine goT hB [] 400 rfl (by first | exact conj_nil | simp [conj]) ?_
    refine run_retC hpin () trivial [] rfl rfl (by first | exact conj_nil | simp [conj]) rfl ?_
    simp [conj, less_rfl]
  refine run_ff (by simp; omega) ?_
  refine goT hB [] 400 rfl (by first | exact conj_nil | simp [conj]) ?_
  refine run_loop ?_
  refine run_inv (ι := Nat) hpin (fun i => i ≤ H.m ∧ ∀ j, j < i → (H.op j).n ≤ 40) (fun i => H.m - i) (fun i => [(3, i64 i), (1, .ptr 0 0)]) (fun _ => []) (fun _ => [(0, hC H vo vc)]) 1 0 ⟨Nat.zero_le _, fun j hj => absurd hj (Nat.not_lt_zero _)⟩ [0] rfl rfl (by simp [conj, less_rfl]) ?_
  rintro i ⟨hi, hall⟩ ih
  refine goT hB [] 400 rfl (by clear ih; first | exact conj_nil | simp [conj]) ?_
  refine run_open hK 17 h.o (by decide) rfl (fun o3 => ?_)
  refine goT hB [(11, 19)] 400 rfl (by clear ih; first | exact conj_nil | simp [conj]) ?_
  refine run_close (.inl rfl) ?_
  by_cases hin : i < H.m
  · have e0 : 0 + ((i : Nat) : Int).toNat = i := by omega
    refine run_tt (by simpa using hin) ?_
    refine goT hB [] 400 rfl (by clear ih; first | exact conj_nil | simp [conj]) ?_
    refine run_open hK 23 h.o (by decide) rfl (fun o4 => ?_)
    refine goT hB [] 400 rfl (by clear ih; simp [conj, hin]) ?_
    rw [e0]
    refine run_open hK 27 (h.v i hin) (by decide) rfl (fun o5 => ?_)
    refine goT hB [(11, 29)] 400 rfl (by clear ih; first | exact conj_nil | simp [conj]) ?_
    refine run_close (.inl rfl) ?_
    refine run_close (.inl rfl) ?_
    by_cases q3 : 40 < (H.op i).n
    · clear ih
      have hbf := nob fun g => by have := g.n i hin; omega
      rw [hbf]
      refine run_tt (by simp; omega) ?_
      refine goT hB [] 400 rfl (by first | exact conj_nil | simp [conj]) ?_
      refine run_retC hpin () trivial [] rfl rfl (by first | exact conj_nil | simp [conj]) rfl ?_
      simp [conj, less_rfl]
    · have ih := ih (i + 1) ⟨by omega, fun j hj => by
        rcases Nat.eq_or_lt_of_le (Nat.le_of_lt_succ hj) with e | e
        · rw [e]; omega
        · exact hall j e⟩ (by omega)
      refine run_ff (by simp; omega) ?_
      refine goT hB [] 400 rfl (by clear ih; simp [conj, Fits_i64]; omega) ?_
      refine run_back ?_
      refine run_to hpin [0] rfl rfl ?_ ih
      clear ih
      simp [conj, less_rfl]
  · clear ih
    have : i = H.m := by omega
    subst this
    have h' := h.ok (by omega) (by omega) hall
    refine run_ff (by simp) ?_
    refine goT hB [] 400 rfl (by first | exact conj_nil | simp [conj]) ?_
    obtain ⟨bv, hbv⟩ : ∃ bv : Bool, bv = true ↔ VHi H := by
      by_cases q : VHi H
      · exact ⟨true, by simp [q]⟩
      · exact ⟨false, by simp [q]⟩
    refine run_callCK (validR_hck h' h.u h.f bv hbv) named hB hK [] rfl rfl rfl rfl (by first | exact conj_nil | simp [conj]) (by simp [conj, less_rfl]) ?_
    rintro ⟨⟩ _
    refine ⟨show 0 ≤ 0 by omega, _, _, _, rfl, rfl, rfl, ?_⟩
    refine goT hB [(11, 32)] 400 rfl (by first | exact conj_nil | simp [conj]) ?_
    cases hbv1 : bv with
    | false =>
      have hno : ¬ VHi H := fun q => by have := hbv.2 q; rw [hbv1] at this; cases this
      have hbt : b = true := hb.2 ⟨by omega, by omega, hall, fun q => absurd q hno⟩
      rw [hbt]
      refine run_tt rfl ?_
      refine goT hB [] 400 rfl (by first | exact conj_nil | simp [conj]) ?_
      refine run_retC hpin () trivial [] rfl rfl (by first | exact conj_nil | simp [conj]) rfl ?_
      simp [conj, less_rfl]
    | true =>
      have hv : VHi H := hbv.1 hbv1
      have hu1 := hv.u1
      have hb1 := hv.b1
      have hb2 := hv.b2
      have hum := units_mul hv
      have hnU := units_le hv
      have hdiv : H.blocks / H.unit = (nU H : Int) := by
        unfold nU
        rw [Int.toNat_of_nonneg (Int.ediv_nonneg (by omega) (by omega))]
      refine run_ff rfl ?_
      refine goT hB [(11, 35)] 400 rfl (by first | exact conj_nil | simp [conj]) ?_
      by_cases q4 : 16 < H.blocks
      · have hbf := nob fun g => by have := (g.v hv).1; omega
        rw [hbf]
        refine run_tt (by simp; omega) ?_
        refine goT hB [] 400 rfl (by first | exact conj_nil | simp [conj]) ?_
        refine run_retC hpin () trivial [] rfl rfl (by first | exact conj_nil | simp [conj]) rfl ?_
        simp [conj, less_rfl]
      refine run_ff (by simp; omega) ?_
      refine goT hB [] 400 rfl (by first | exact conj_nil | simp [conj]) ?_
      refine run_loop ?_
      refine run_inv (ι := Nat) hpin (fun u => u ≤ nU H ∧ ∀ j, j < u → ∀ e, e ≤ H.nc → lenE H (j : Nat) e ≤ 5) (fun u => nU H - u) (fun u => [(4, i64 u), (1, .ptr 0 0)]) (fun _ => []) (fun _ => [(0, hC H vo vc)]) 1 0 ⟨Nat.zero_le _, fun j hj => absurd hj (Nat.not_lt_zero _)⟩ [0] rfl rfl (by simp [conj, less_rfl]) ?_
      rintro u ⟨hu, hallu⟩ ih
      refine goT hB [(11, 42)] 400 rfl (by clear ih; simp [conj, Fits_i64, hdiv]; omega) ?_
      rw [hdiv]
      by_cases hul : u < nU H
      · refine run_tt (by simpa using hul) ?_
        refine goT hB [] 400 rfl (by clear ih; first | exact conj_nil | simp [conj]) ?_
        have hub : ((u : Int) + 1) * H.unit ≤ H.blocks := by
          rw [← hum]; exact Int.mul_le_mul_of_nonneg_right (by omega) (by omega)
        refine run_callCK (mostR_hck h' hv (u : Int) (by omega) hub) named hB hK [] rfl rfl rfl rfl (by first | exact conj_nil | simp [conj]) (by clear ih; simp [conj, less_rfl]) ?_
        rintro ⟨⟩ _
        refine ⟨show 0 ≤ 0 by omega, _, _, _, rfl, rfl, rfl, ?_⟩
        refine goT hB [(11, 48)] 400 rfl (by clear ih; first | exact conj_nil | simp [conj]) ?_
        have hmx := mxE_le H (u : Int) 5 (H.nc + 1)
        by_cases q5 : 5 < mxE H (u : Int) (H.nc + 1)
        · clear ih
          have hbf := nob fun g => by
            have := hmx.2 fun e he => (g.v hv).2 u hul e (by omega)
            omega
          rw [hbf]
          refine run_tt (by simp; omega) ?_
          refine goT hB [] 400 rfl (by first | exact conj_nil | simp [conj]) ?_
          refine run_retC hpin () trivial [] rfl rfl (by first | exact conj_nil | simp [conj]) rfl ?_
          simp [conj, less_rfl]
        · have ih := ih (u + 1) ⟨by omega, fun j hj e he => by
            rcases Nat.eq_or_lt_of_le (Nat.le_of_lt_succ hj) with q | q
            · rw [q]; exact hmx.1 (by omega) e (by omega)
            · exact hallu j q e he⟩ (by omega)
          refine run_ff (by simp; omega) ?_
          refine goT hB [] 400 rfl (by clear ih; simp [conj, Fits_i64]; omega) ?_
          refine run_back ?_
          refine run_to hpin [0] rfl rfl ?_ ih
          clear ih
          simp [conj, less_rfl]
      · clear ih
        have : u = nU H := by omega
        subst this
        have hbt : b = true := hb.2 ⟨by omega, by omega, hall, fun _ => ⟨by omega, hallu⟩⟩
        rw [hbt]
        refine run_ff (by simp) ?_
        refine goT hB [] 400 rfl (by first | exact conj_nil | simp [conj]) ?_
        refine run_retC hpin () trivial [] rfl rfl (by first | exact conj_nil | simp [conj]) rfl ?_
        simp [conj, less_rfl]
end Sx
