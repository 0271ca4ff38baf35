/- Package extent: Create. Conditions: as each theorem says. -/
import Derived.Test.YtcfifbpkngplmaaXm
import Derived.Test.YtcfifbpkngplmaaEngX5
set_option linter.unusedSimpArgs false
set_option linter.unusedVariables false
namespace Sx
open Go Go.Proofs
set_option maxRecDepth 100000
set_option pp.deepTerms true
set_option pp.maxSteps 10000000
set_option maxHeartbeats 4000000 in
theorem create_lo (s : XSt) (z : XZ) (hu : 0 < s.un) (hp : 0 ≤ s.un * s.tot) (hp2 : s.un * s.tot ≤ 16777216) (id c : Int) (h1 : id < 1) : HC Try.prog 11 [.ptr 0 0, i64 id, i64 c] (hpX s z) [] 2 (fun _ : Unit => True) (fun _ => ⟨i64 2, hpX s z, 2⟩) := by
  refine hc_of_run Try.func11 rfl (fun B hB hpin => ?_)
  refine goQ hB [(35, 10)] 3000 rfl (by first | exact conj_nil | (simp [conj, Fits_i64, isBo4, isPt23, isIf20]; done) | (simp [conj, Fits_i64, isBo4, isPt23, isIf20]; omega)) ?_
  refine run_ff (by first | (simp []; done) | (simp []; omega)) ?_
  refine goQ hB [(74, 15)] 3000 rfl (by first | exact conj_nil | (simp [conj, Fits_i64, isBo4, isPt23, isIf20]; done) | (simp [conj, Fits_i64, isBo4, isPt23, isIf20]; omega)) ?_
  refine run_ff (by first | (simp [h1]; done) | (simp [h1]; omega)) ?_
  refine goQ hB [] 3000 rfl (by first | exact conj_nil | (simp [conj, Fits_i64, isBo4, isPt23, isIf20]; done) | (simp [conj, Fits_i64, isBo4, isPt23, isIf20]; omega)) ?_
  refine run_retCX hpin () trivial [0, 1] (.inl rfl) rfl rfl rfl rfl (by first | exact conj_nil | simp [conj]) (by first | exact conj_nil | simp [conj]) rfl ?_
  simp [conj, less_rfl]
set_option maxHeartbeats 4000000 in
theorem create_hi (s : XSt) (z : XZ) (hu : 0 < s.un) (hp : 0 ≤ s.un * s.tot) (hp2 : s.un * s.tot ≤ 16777216) (id c : Int) (h1 : 1 ≤ id) (h2 : 1024 < id) : HC Try.prog 11 [.ptr 0 0, i64 id, i64 c] (hpX s z) [] 2 (fun _ : Unit => True) (fun _ => ⟨i64 2, hpX s z, 2⟩) := by
  refine hc_of_run Try.func11 rfl (fun B hB hpin => ?_)
  refine goQ hB [(35, 10)] 3000 rfl (by first | exact conj_nil | (simp [conj, Fits_i64, isBo4, isPt23, isIf20]; done) | (simp [conj, Fits_i64, isBo4, isPt23, isIf20]; omega)) ?_
  refine run_ff (by first | (simp []; done) | (simp []; omega)) ?_
  refine goQ hB [(74, 15)] 3000 rfl (by first | exact conj_nil | (simp [conj, Fits_i64, isBo4, isPt23, isIf20]; done) | (simp [conj, Fits_i64, isBo4, isPt23, isIf20]; omega)) ?_
  refine run_tt (by first | (simp [h1]; done) | (simp [h1]; omega)) ?_
  refine goQ hB [(74, 15)] 3000 rfl (by first | exact conj_nil | (simp [conj, Fits_i64, isBo4, isPt23, isIf20]; done) | (simp [conj, Fits_i64, isBo4, isPt23, isIf20]; omega)) ?_
  refine run_ff (by first | (simp [h2]; done) | (simp [h2]; omega)) ?_
  refine goQ hB [] 3000 rfl (by first | exact conj_nil | (simp [conj, Fits_i64, isBo4, isPt23, isIf20]; done) | (simp [conj, Fits_i64, isBo4, isPt23, isIf20]; omega)) ?_
  refine run_retCX hpin () trivial [0, 1] (.inl rfl) rfl rfl rfl rfl (by first | exact conj_nil | simp [conj]) (by first | exact conj_nil | simp [conj]) rfl ?_
  simp [conj, less_rfl]
set_option maxHeartbeats 4000000 in
theorem create_small (s : XSt) (z : XZ) (hu : 0 < s.un) (hp : 0 ≤ s.un * s.tot) (hp2 : s.un * s.tot ≤ 16777216) (id c : Int) (h1 : 1 ≤ id) (h2 : id ≤ 1024) (h3 : c < 1) : HC Try.prog 11 [.ptr 0 0, i64 id, i64 c] (hpX s z) [] 2 (fun _ : Unit => True) (fun _ => ⟨i64 2, hpX s z, 2⟩) := by
  refine hc_of_run Try.func11 rfl (fun B hB hpin => ?_)
  refine goQ hB [(35, 10)] 3000 rfl (by first | exact conj_nil | (simp [conj, Fits_i64, isBo4, isPt23, isIf20]; done) | (simp [conj, Fits_i64, isBo4, isPt23, isIf20]; omega)) ?_
  refine run_ff (by first | (simp []; done) | (simp []; omega)) ?_
  refine goQ hB [(74, 15)] 3000 rfl (by first | exact conj_nil | (simp [conj, Fits_i64, isBo4, isPt23, isIf20]; done) | (simp [conj, Fits_i64, isBo4, isPt23, isIf20]; omega)) ?_
  refine run_tt (by first | (simp [h1]; done) | (simp [h1]; omega)) ?_
  refine goQ hB [(74, 15)] 3000 rfl (by first | exact conj_nil | (simp [conj, Fits_i64, isBo4, isPt23, isIf20]; done) | (simp [conj, Fits_i64, isBo4, isPt23, isIf20]; omega)) ?_
  refine run_tt (by first | (simp [h2]; done) | (simp [h2]; omega)) ?_
  refine goQ hB [(74, 15)] 3000 rfl (by first | exact conj_nil | (simp [conj, Fits_i64, isBo4, isPt23, isIf20]; done) | (simp [conj, Fits_i64, isBo4, isPt23, isIf20]; omega)) ?_
  refine run_ff (by first | (simp [h3]; done) | (simp [h3]; omega)) ?_
  refine goQ hB [] 3000 rfl (by first | exact conj_nil | (simp [conj, Fits_i64, isBo4, isPt23, isIf20]; done) | (simp [conj, Fits_i64, isBo4, isPt23, isIf20]; omega)) ?_
  refine run_retCX hpin () trivial [0, 1] (.inl rfl) rfl rfl rfl rfl (by first | exact conj_nil | simp [conj]) (by first | exact conj_nil | simp [conj]) rfl ?_
  simp [conj, less_rfl]
set_option maxHeartbeats 4000000 in
theorem create_big (s : XSt) (z : XZ) (hu : 0 < s.un) (hp : 0 ≤ s.un * s.tot) (hp2 : s.un * s.tot ≤ 16777216) (id c : Int) (h1 : 1 ≤ id) (h2 : id ≤ 1024) (h3 : 1 ≤ c) (h4 : s.un * s.tot < c) : HC Try.prog 11 [.ptr 0 0, i64 id, i64 c] (hpX s z) [] 2 (fun _ : Unit => True) (fun _ => ⟨i64 2, hpX s z, 2⟩) := by
  refine hc_of_run Try.func11 rfl (fun B hB hpin => ?_)
  refine goQ hB [(35, 10)] 3000 rfl (by first | exact conj_nil | (simp [conj, Fits_i64, isBo4, isPt23, isIf20]; done) | (simp [conj, Fits_i64, isBo4, isPt23, isIf20]; omega)) ?_
  refine run_ff (by first | (simp []; done) | (simp []; omega)) ?_
  refine goQ hB [(74, 15)] 3000 rfl (by first | exact conj_nil | (simp [conj, Fits_i64, isBo4, isPt23, isIf20]; done) | (simp [conj, Fits_i64, isBo4, isPt23, isIf20]; omega)) ?_
  refine run_tt (by first | (simp [h1]; done) | (simp [h1]; omega)) ?_
  refine goQ hB [(74, 15)] 3000 rfl (by first | exact conj_nil | (simp [conj, Fits_i64, isBo4, isPt23, isIf20]; done) | (simp [conj, Fits_i64, isBo4, isPt23, isIf20]; omega)) ?_
  refine run_tt (by first | (simp [h2]; done) | (simp [h2]; omega)) ?_
  refine goQ hB [(74, 15)] 3000 rfl (by first | exact conj_nil | (simp [conj, Fits_i64, isBo4, isPt23, isIf20]; done) | (simp [conj, Fits_i64, isBo4, isPt23, isIf20]; omega)) ?_
  refine run_tt (by first | (simp [h3]; done) | (simp [h3]; omega)) ?_
  refine goQ hB [(74, 15)] 3000 rfl (by first | exact conj_nil | (simp [conj, Fits_i64, isBo4, isPt23, isIf20]; done) | (simp [conj, Fits_i64, isBo4, isPt23, isIf20]; omega)) ?_
  refine run_ff (by first | (simp [h4]; done) | (simp [h4]; omega)) ?_
  refine goQ hB [] 3000 rfl (by first | exact conj_nil | (simp [conj, Fits_i64, isBo4, isPt23, isIf20]; done) | (simp [conj, Fits_i64, isBo4, isPt23, isIf20]; omega)) ?_
  refine run_retCX hpin () trivial [0, 1] (.inl rfl) rfl rfl rfl rfl (by first | exact conj_nil | simp [conj]) (by first | exact conj_nil | simp [conj]) rfl ?_
  simp [conj, less_rfl]
set_option maxHeartbeats 4000000 in
theorem create_busy (s : XSt) (z : XZ) (hu : 0 < s.un) (hp : 0 ≤ s.un * s.tot) (hp2 : s.un * s.tot ≤ 16777216) (id c : Int) (h1 : 1 ≤ id) (h2 : id ≤ 1024) (h3 : 1 ≤ c) (h4 : c ≤ s.un * s.tot) (hh : s.h id = true) : HC Try.prog 11 [.ptr 0 0, i64 id, i64 c] (hpX s z) [] 2 (fun _ : Unit => True) (fun _ => ⟨i64 11, hpX s z, 2⟩) := by
  refine hc_of_run Try.func11 rfl (fun B hB hpin => ?_)
  refine goQ hB [(35, 10)] 3000 rfl (by first | exact conj_nil | (simp [conj, Fits_i64, isBo4, isPt23, isIf20]; done) | (simp [conj, Fits_i64, isBo4, isPt23, isIf20]; omega)) ?_
  refine run_ff (by first | (simp []; done) | (simp []; omega)) ?_
  refine goQ hB [(74, 15)] 3000 rfl (by first | exact conj_nil | (simp [conj, Fits_i64, isBo4, isPt23, isIf20]; done) | (simp [conj, Fits_i64, isBo4, isPt23, isIf20]; omega)) ?_
  refine run_tt (by first | (simp [h1]; done) | (simp [h1]; omega)) ?_
  refine goQ hB [(74, 15)] 3000 rfl (by first | exact conj_nil | (simp [conj, Fits_i64, isBo4, isPt23, isIf20]; done) | (simp [conj, Fits_i64, isBo4, isPt23, isIf20]; omega)) ?_
  refine run_tt (by first | (simp [h2]; done) | (simp [h2]; omega)) ?_
  refine goQ hB [(74, 15)] 3000 rfl (by first | exact conj_nil | (simp [conj, Fits_i64, isBo4, isPt23, isIf20]; done) | (simp [conj, Fits_i64, isBo4, isPt23, isIf20]; omega)) ?_
  refine run_tt (by first | (simp [h3]; done) | (simp [h3]; omega)) ?_
  refine goQ hB [(74, 15)] 3000 rfl (by first | exact conj_nil | (simp [conj, Fits_i64, isBo4, isPt23, isIf20]; done) | (simp [conj, Fits_i64, isBo4, isPt23, isIf20]; omega)) ?_
  refine run_tt (by first | (simp [h4]; done) | (simp [h4]; omega)) ?_
  refine goQ hB [(11, 42)] 3000 rfl (by first | exact conj_nil | (simp [conj, Fits_i64, isBo4, isPt23, isIf20]; done) | (simp [conj, Fits_i64, isBo4, isPt23, isIf20]; omega)) ?_
  refine run_tt (by first | (simp [hh]; done) | (simp [hh]; omega)) ?_
  refine goQ hB [] 3000 rfl (by first | exact conj_nil | (simp [conj, Fits_i64, isBo4, isPt23, isIf20]; done) | (simp [conj, Fits_i64, isBo4, isPt23, isIf20]; omega)) ?_
  refine run_retCX hpin () trivial [0, 1] (.inl rfl) rfl rfl rfl rfl (by first | exact conj_nil | simp [conj]) (by first | exact conj_nil | simp [conj]) rfl ?_
  simp [conj, less_rfl]
def hIns (h : Int → Bool) (id : Int) : Int → Bool := fun a => ieq a id || h a
def iIns {α : Type} (f : Int → α) (id : Int) (y : α) : Int → α := fun a => bif ieq a id then y else f a
def parts (un c : Int) : Nat := ((c + un - 1) / un).toNat
def ZNew (K : Kn) (n : Nat) (y : Nat × Nat) (K' : Kn) : Prop := K y.1 = none ∧ (∀ x, x ≠ y.1 → K' x = K x) ∧ n ≤ y.2 ∧ ∃ cc : Array Value, K' y.1 = some (.cells cc 3 (0, 0)) ∧ n ≤ cc.size ∧ ∀ i, i < n → ∃ u, cc[i]? = some u ∧ Rel Env.nil (i64 0) u
theorem zeros_hcx (K : Kn) (n : Int) (h0 : 0 < n) (h1 : n ≤ 35184372088832) : HCX Try.prog K M0 36 [i64 n] [] [] 0 (ZNew K n.toNat) (fun y => ⟨.val (.slice (some ⟨y.1, 0, none⟩) n.toNat y.2), [], 0⟩) := by
  refine hcx_of_run Try.func36 rfl (fun B hB hK hpin => ?_)
  refine goU hB (sumOk_nil _) rfl rfl (by simp [conj]; omega) ?_
  refine run_freezeO hB hK 2 rfl rfl (Nat.le_refl _) (by omega) rfl (fun _ _ => rfl) rfl (fun b room c B' K' e1 e2 e3 e4 e5 e6 e7 e8 => ?_)
  refine run_retF e7 (by exact ⟨fun i hi => by rw [e8]; exact hpin.p i hi, e7.kd.trans hpin.k⟩) (b, room) ⟨e5, e6, e1, c, e2, e3, e4⟩ [] rfl rfl (by first | exact conj_nil | simp [conj]) rfl ?_
  simp [conj, less_rfl]
theorem create_ok (K : Kn) (s : XSt) (z : XZ) (hu : 0 < s.un) (hu2 : s.un ≤ 4096) (hp : 0 ≤ s.un * s.tot) (hp2 : s.un * s.tot ≤ 16777216) (id c : Int) (h1 : 1 ≤ id) (h2 : id ≤ 1024) (h3 : 1 ≤ c) (h4 : c ≤ s.un * s.tot) (hh : s.h id = false) (hpt : 0 < parts s.un c) (hpt2 : parts s.un c ≤ 16781312) :
    HCX Try.prog K M0 11 [.ptr 0 0, i64 id, i64 c] (hpX s z) [] 2 (ZNew K (parts s.un c))
      (fun y => ⟨i64 0, [(0, xC z.vF s.nx s.tot s.un 1), (1, amap (hIns s.h id) (iIns s.sz id c) (iIns z.V id (.slice (some ⟨y.1, 0, none⟩) (parts s.un c) y.2)))], 2⟩) := by
  refine hcx_of_run Try.func11 rfl (fun B hB hK hpin => ?_)
  have hF0 : Fz B K M0 B K := .refl hB hK
  refine goMT hB [(35, 10)] 400 rfl (by first | exact conj_nil | simp [conj, isPt23]) ?_
  refine run_ff (by simp; omega) ?_
  refine goMT hB [] 400 rfl (by first | exact conj_nil | simp [conj]) ?_
  refine run_callC (must1_hc 1) named hB [3] rfl rfl rfl rfl (by first | exact conj_nil | simp [conj]) (by simp [conj, less_rfl]) ?_
  rintro ⟨⟩ _
  refine ⟨show 1 ≤ 1 by omega, _, _, _, rfl, rfl, rfl, ?_⟩
  refine goM hB rfl rfl (by simp [conj, Fits_i64]; omega) ?_
  refine run_callC (must4_hc 2) named hB [22] rfl rfl rfl rfl (by first | exact conj_nil | simp [conj]) (by simp [conj, less_rfl, h1, h2, h3, h4]) ?_
  rintro ⟨⟩ _
  refine ⟨show 1 ≤ 1 by omega, _, _, _, rfl, rfl, rfl, ?_⟩
  refine goM hB rfl rfl (by first | exact conj_nil | simp [conj, isBo4]) ?_
  refine run_callC (must1_hc 11) named hB [24] rfl rfl rfl rfl (by first | exact conj_nil | simp [conj]) (by simp [conj, less_rfl, hh]) ?_
  rintro ⟨⟩ _
  refine ⟨show 1 ≤ 1 by omega, _, _, _, rfl, rfl, rfl, ?_⟩
  have hpa : 0 ≤ (c + s.un - 1) / s.un := Int.ediv_nonneg (by omega) (Int.le_of_lt hu)
  have hpb : (c + s.un - 1) / s.un ≤ 16781312 := by unfold parts at hpt2; omega
  refine goM hB rfl rfl (by first | exact conj_nil | simp [conj]) ?_
  refine run_draw0 mixed (fun t => ?_)
  refine run_drawX hK 1 21 rfl named hB (M := modeM) (sumOk_nil _) 18 ⟨36, [i64 ((c + s.un - 1) / s.un)], [], [], 0, .und, [], 0, []⟩ (0, 0) (zeros_hcx K ((c + s.un - 1) / s.un) (by unfold parts at hpt; omega) (by omega)) rfl (fun _ => Nat.zero_le _) [] trivial rfl rfl (fun _ => rfl) rfl (fun _ => rfl) rfl rfl rfl (fun _ => ?_) (fun _ => ?_) (fun y B2 K2 hy hF2 hp2 t => ?_)
  · repeat' (first | exact trivial | exact Or.inr (Or.inr rfl) | exact Or.inl rfl | exact Or.inr (Or.inl rfl) | apply And.intro)
  · simp [conj, Fits_i64]
    omega
  have hB2 := hF2.ok
  have hpin2 := hpin.fz hF2 hp2
  refine run_drawE rfl ?_
  refine goMT hB2 [] 400 rfl (by first | exact conj_nil | simp [conj, isIf20]) ?_
  refine run_retFX hF2 hpin2 y hy [0, 1] (.inl rfl) rfl rfl rfl rfl (by first | exact conj_nil | simp [conj]) (by first | exact conj_nil | simp [conj]) rfl ?_
  simp [conj, less_rfl]
  exact ⟨fun _ => rfl, fun _ _ => ⟨rfl, rfl⟩⟩
end Sx
