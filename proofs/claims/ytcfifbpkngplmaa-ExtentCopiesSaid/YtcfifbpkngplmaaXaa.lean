/- The reference of chapter 27: Place. Conditions: as each theorem says. -/
import Derived.Test.YtcfifbpkngplmaaXz
set_option linter.unusedSimpArgs false
set_option linter.unusedVariables false
namespace Sx
open Go Go.Proofs
set_option maxRecDepth 100000
set_option pp.deepTerms true
set_option pp.maxSteps 10000000
theorem placeR_same (K : Kn) (r : RS) (v : Value) (W : Nat → Value) (hv : Froz K v r.m 3 (rrow r W)) (hW : RUnits K r W) (hm : r.m < 100000) (un tot : Int) (hu : 0 < un) (id s at' : Int) (is' : Bool) (no : Int) (h : LoS r un id s at' is' no) (hc : no ≠ 0 ∨ is' = true) :
    HCK Try.prog K 55 [rG un tot v, i64 id, i64 s] [] [] 0 (fun _ : Unit => True) (fun _ => ⟨.tup [rG un tot v, i64 at', .ff, i64 no], [], 0⟩) := by
  by_cases h0 : no = 0
  · have hi : is' = true := by
      rcases hc with q | q
      · exact absurd h0 q
      · exact q
    subst hi
    refine hck_of_run Try.func55 rfl (fun B hB hK hpin => ?_)
    refine goR hB rfl rfl (by first | exact conj_nil | simp [conj]) ?_
    refine run_callCK (look_hck K r v W hv hW hm un tot hu id s at' true no h) named hB hK [] rfl rfl rfl rfl (by first | exact conj_nil | simp [conj]) (by simp [conj, less_rfl]) ?_
    rintro ⟨⟩ _
    refine ⟨show 0 ≤ 0 by omega, _, _, _, rfl, rfl, rfl, ?_⟩
    refine goRT hB [(55, 23)] 400 rfl (by first | exact conj_nil | simp [conj]) ?_
    refine run_ff (by simpa using h0) ?_
    refine goR hB rfl rfl (by first | exact conj_nil | simp [conj]) ?_
    refine run_retC hpin () trivial [] rfl rfl (by first | exact conj_nil | simp [conj]) rfl ?_
    simp [conj, less_rfl]
  · cases is'
    all_goals
      refine hck_of_run Try.func55 rfl (fun B hB hK hpin => ?_)
      refine goR hB rfl rfl (by first | exact conj_nil | simp [conj]) ?_
      refine run_callCK (look_hck K r v W hv hW hm un tot hu id s at' _ no h) named hB hK [] rfl rfl rfl rfl (by first | exact conj_nil | simp [conj]) (by simp [conj, less_rfl]) ?_
      rintro ⟨⟩ _
      refine ⟨show 0 ≤ 0 by omega, _, _, _, rfl, rfl, rfl, ?_⟩
      refine goRT hB [(55, 23)] 400 rfl (by first | exact conj_nil | simp [conj]) ?_
      refine run_tt (by simpa using h0) ?_
      refine goR hB rfl rfl (by first | exact conj_nil | simp [conj]) ?_
      refine run_retC hpin () trivial [] rfl rfl (by first | exact conj_nil | simp [conj]) rfl ?_
      simp [conj, less_rfl]
theorem placeR_full (K : Kn) (r : RS) (v : Value) (W : Nat → Value) (hv : Froz K v r.m 3 (rrow r W)) (hW : RUnits K r W) (hm : r.m < 100000) (hN : ∀ i, r.N i < 100000000) (un tot : Int) (hu : 0 < un) (ht : tot ≤ 16777216) (id s : Int) (h : LoS r un id s 0 false 0) (hx : LowS r tot (-1)) :
    HCK Try.prog K 55 [rG un tot v, i64 id, i64 s] [] [] 0 (fun _ : Unit => True) (fun _ => ⟨.tup [rG un tot v, i64 0, .ff, i64 7], [], 0⟩) := by
  refine hck_of_run Try.func55 rfl (fun B hB hK hpin => ?_)
  refine goR hB rfl rfl (by first | exact conj_nil | simp [conj]) ?_
  refine run_callCK (look_hck K r v W hv hW hm un tot hu id s 0 false 0 h) named hB hK [] rfl rfl rfl rfl (by first | exact conj_nil | simp [conj]) (by simp [conj, less_rfl]) ?_
  rintro ⟨⟩ _
  refine ⟨show 0 ≤ 0 by omega, _, _, _, rfl, rfl, rfl, ?_⟩
  refine goRT hB [(55, 23)] 400 rfl (by first | exact conj_nil | simp [conj]) ?_
  refine run_ff (by simp) ?_
  refine goR hB rfl rfl (by first | exact conj_nil | simp [conj]) ?_
  refine run_callCK (hck_openA3 hv (by decide) rfl (lowest_v K r W hW hm hN un tot (-1) ht hx)) named hB hK [] rfl rfl rfl rfl (by first | exact conj_nil | simp [conj]) (by simp [conj, less_rfl]) ?_
  rintro ⟨⟩ _
  refine ⟨show 0 ≤ 0 by omega, _, _, _, rfl, rfl, rfl, ?_⟩
  refine goRT hB [(55, 33)] 400 rfl (by first | exact conj_nil | simp [conj]) ?_
  refine run_tt (by simp) ?_
  refine goR hB rfl rfl (by first | exact conj_nil | simp [conj]) ?_
  refine run_retC hpin () trivial [] rfl rfl (by first | exact conj_nil | simp [conj]) rfl ?_
  simp [conj, less_rfl]
theorem placeR_ok (K : Kn) (r : RS) (v : Value) (W : Nat → Value) (hv : Froz K v r.m 3 (rrow r W)) (hW : RUnits K r W) (hm : r.m < 100000) (hN : ∀ i, r.N i < 1000000) (un tot : Int) (hu : 0 < un) (ht : tot ≤ 16777216) (id s : Int) (g0 : 0 ≤ s) (g1 : s ≤ 16777216) (h : LoS r un id s 0 false 0) (x : Int) (hx : LowS r tot x) (hx0 : 0 ≤ x) (hx1 : x ≤ 16777216) (hx2 : x * un ≤ 16777216) (k : Nat) (h40 : k < 40) (hk : k < r.m) (hkI : r.I k = id) (hkm : ∀ j, j < k → r.I j ≠ id) (hq : (s / un).toNat < r.N k) :
    HCX Try.prog K M0 55 [rG un tot v, i64 id, i64 s] [] [] 0 (SetR r W k (s / un).toNat x) (fun y => ⟨.tup [rG un tot y.1, i64 (x * un + s % un), .tt, i64 0], [], 0⟩) := by
  have hd := Int.ediv_nonneg g0 (Int.le_of_lt hu)
  have hml := emod_le' g0 hu
  have hmn := Int.emod_nonneg s (by omega : un ≠ 0)
  have hp := Int.mul_nonneg hx0 (Int.le_of_lt hu)
  refine hcx_of_run Try.func55 rfl (fun B hB hK hpin => ?_)
  refine goR hB rfl rfl (by first | exact conj_nil | simp [conj]) ?_
  refine run_callCK (look_hck K r v W hv hW hm un tot hu id s 0 false 0 h) named hB hK [] rfl rfl rfl rfl (by first | exact conj_nil | simp [conj]) (by simp [conj, less_rfl]) ?_
  rintro ⟨⟩ _
  refine ⟨show 0 ≤ 0 by omega, _, _, _, rfl, rfl, rfl, ?_⟩
  refine goRT hB [(55, 23)] 400 rfl (by first | exact conj_nil | simp [conj]) ?_
  refine run_ff (by simp) ?_
  refine goR hB rfl rfl (by first | exact conj_nil | simp [conj]) ?_
  refine run_callCK (hck_openA3 hv (by decide) rfl (lowest_v K r W hW hm (fun i => by have := hN i; omega) un tot x ht hx)) named hB hK [] rfl rfl rfl rfl (by first | exact conj_nil | simp [conj]) (by simp [conj, less_rfl]) ?_
  rintro ⟨⟩ _
  refine ⟨show 0 ≤ 0 by omega, _, _, _, rfl, rfl, rfl, ?_⟩
  refine goRT hB [(55, 33)] 400 rfl (by first | exact conj_nil | simp [conj]) ?_
  refine run_ff (by simp; omega) ?_
  refine goR hB rfl rfl (by first | exact conj_nil | simp [conj]) ?_
  refine run_draw0 mixed (fun t => ?_)
  refine run_drawX hK 1 11 rfl named hB (M := modeR) (sumOk_nil _) 9 ⟨71, [rG un tot v, i64 k, i64 (s / un).toNat, i64 x], [], [], 0, .und, [], 0, []⟩ (v, v) (set_hcx K r v W hv hm un tot k h40 hk (hN k) (hW k hk) (s / un).toNat hq x) rfl (fun _ => Nat.zero_le _) [(5, ⟨67, [rG un tot v, i64 id], [], [], 0, i64 k, [], 0, []⟩)] ⟨⟨hck_openA3 hv (by decide) rfl (fun off => hck_of_hc (find_v r W un tot id k (.inr ⟨k, rfl, hk, hkI, hkm⟩) hm off)), rfl, Nat.le_refl _⟩, trivial⟩ rfl rfl (fun _ => rfl) rfl (fun _ => rfl) rfl rfl rfl (fun _ => ?_) (fun _ => ?_) (fun y B2 K2 hy hF2 hp2 t => ?_)
  · repeat' (first | exact trivial | exact Or.inr (Or.inr rfl) | exact Or.inl rfl | exact Or.inr (Or.inl rfl) | apply And.intro)
  · simp [conj, Fits_i64, less_rfl]
    omega
  have hB2 := hF2.ok
  refine run_drawE rfl ?_
  refine goR hB2 rfl rfl (by simp [conj, Fits_i64]; omega) ?_
  refine run_retF hF2 (hpin.fz hF2 hp2) y hy [] rfl rfl (by first | exact conj_nil | simp [conj]) rfl ?_
  simp [conj, less_rfl]
end Sx
