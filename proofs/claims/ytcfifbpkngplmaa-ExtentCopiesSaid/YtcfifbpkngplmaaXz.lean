/- The reference of chapter 27: Delete. Conditions: as each theorem says. -/
import Derived.Test.YtcfifbpkngplmaaXy
set_option linter.unusedSimpArgs false
set_option linter.unusedVariables false
namespace Sx
open Go Go.Proofs
set_option maxRecDepth 100000
set_option pp.deepTerms true
set_option pp.maxSteps 10000000
theorem deleteR_no (K : Kn) (r : RS) (v : Value) (W : Nat → Value) (hv : Froz K v r.m 3 (rrow r W)) (hm : r.m < 100000) (un tot : Int) (id i no : Int) (h : KnS r id i no) (h0 : no ≠ 0) :
    HCK Try.prog K 54 [rG un tot v, i64 id] [] [] 0 (fun _ : Unit => True) (fun _ => ⟨.tup [rG un tot v, .nilsl, i64 no], [], 0⟩) := by
  refine hck_of_run Try.func54 rfl (fun B hB hK hpin => ?_)
  refine goR hB rfl rfl (by first | exact conj_nil | simp [conj]) ?_
  refine run_callCK (hck_openA3 hv (by decide) rfl (fun off => hck_of_hc (known_v r W hm un tot id i no h off))) named hB hK [] rfl rfl rfl rfl (by first | exact conj_nil | simp [conj]) (by simp [conj, less_rfl]) ?_
  rintro ⟨⟩ _
  refine ⟨show 0 ≤ 0 by omega, _, _, _, rfl, rfl, rfl, ?_⟩
  refine goRT hB [(54, 19)] 400 rfl (by first | exact conj_nil | simp [conj]) ?_
  refine run_tt (by simpa using h0) ?_
  refine goR hB rfl rfl (by first | exact conj_nil | simp [conj]) ?_
  refine run_retC hpin () trivial [] rfl rfl (by first | exact conj_nil | simp [conj]) rfl ?_
  simp [conj, less_rfl]
def pU (r : RS) (k : Nat) : Nat → Int := fun q => r.U k q + 1
def delR (r : RS) (k : Nat) : RS := ⟨r.m - 1, fun j => if j < k then r.I j else r.I (j + 1), fun j => if j < k then r.Z j else r.Z (j + 1), fun j => if j < k then r.N j else r.N (j + 1), fun j => if j < k then r.U j else r.U (j + 1)⟩
def delW (W : Nat → Value) (k : Nat) : Nat → Value := fun j => if j < k then W j else W (j + 1)
theorem del_row (r : RS) (W : Nat → Value) (k : Nat) (h0 : Nat → Nat → SV) (a b : Nat) :
    rrow (delR r k) (delW W k) a b = appF (appF h0 0 fun i k => rrow r W i k) k (fun i c => rrow r W (k + 1 + i) c) a b := by
  rcases Nat.lt_or_ge a k with h | h
  · rw [appF_lt h, app0]
    simp only [rrow, delR, delW, if_pos h]
  · rw [appF_ge h]
    simp only [rrow, delR, delW, if_neg (show ¬ a < k by omega), show k + 1 + (a - k) = a + 1 by omega]
theorem deleteR_ok (K : Kn) (r : RS) (v : Value) (W : Nat → Value) (hv : Froz K v r.m 3 (rrow r W)) (hW : RUnits K r W) (hm : r.m < 10000) (un tot : Int) (hu : 0 < un) (id : Int) (k : Nat) (hk : k < r.m) (h : KnS r id k 0) (n : Nat) (hn : r.N k = n) (hn2 : n ≤ 20000) (f : Nat → Int) (hfe : pU r k = f) (hf : ∀ i, 0 ≤ f i ∧ f i ≤ 16777217 ∧ (f i - 1) * un ≤ 16777216) (d : Nat → Bool) (hd : ∀ i, d i = decide (0 < f i)) :
    HCX Try.prog K M0 54 [rG un tot v, i64 id] [] [] 0 (fun (y : Value × Value) K' => Froz K' y.1 (r.m - 1) 3 (rrow (delR r k) (delW W k)) ∧ Froz K' y.2 (dL f d n).length 2 (exrow un (dL f d n))) (fun y => ⟨.tup [rG un tot y.1, .val y.2, i64 0], [], 0⟩) := by
  refine hcx_of_run Try.func54 rfl (fun B hB hK hpin => ?_)
  have hF0 : Fz B K M0 B K := .refl hB hK
  refine goR hB rfl rfl (by first | exact conj_nil | simp [conj]) ?_
  refine run_callCK (hck_openA3 hv (by decide) rfl (fun off => hck_of_hc (known_v r W (by omega) un tot id k 0 h off))) named hB hK [] rfl rfl rfl rfl (by first | exact conj_nil | simp [conj]) (by simp [conj, less_rfl]) ?_
  rintro ⟨⟩ _
  refine ⟨show 0 ≤ 0 by omega, _, _, _, rfl, rfl, rfl, ?_⟩
  refine goRT hB [(54, 19)] 400 rfl (by first | exact conj_nil | simp [conj]) ?_
  refine run_ff (by simp) ?_
  refine goR hB rfl rfl (by first | exact conj_nil | simp [conj]) ?_
  refine run_loop ?_
  refine run_to hpin [0, 1, 2] (nx' := 3) (rest' := []) (sl' := [(10, i64 ((0 : Nat) : Int)), (9, .sq 2 0 0 2 0 .own), (7, i64 k), (6, i64 0), (4, .ptr 1 0), (2, .ptr 0 0)]) (hp' := [(0, .cells [i64 un, i64 tot, .val v] 50), (1, .cells [.und, .und, .und] 50), (2, .row 0 0 0 2 (exrow un []) 71)]) rfl rfl (by simp [conj, less_rfl]) ?_
  refine run_inv (ι := Nat) hpin (fun i => i ≤ n) (fun i => n - i) (fun i => [(10, i64 i), (9, .sq 2 0 0 2 (dL f d i).length .own), (7, i64 k), (6, i64 0), (4, .ptr 1 0), (2, .ptr 0 0)]) (fun _ => []) (fun i => [(0, .cells [i64 un, i64 tot, .val v] 50), (1, .cells [.und, .und, .und] 50), (2, .row 0 (dL f d i).length (dL f d i).length 2 (exrow un (dL f d i)) 71)]) 3 0 (Nat.zero_le _) [0, 1, 2] rfl rfl (by simp [conj, less_rfl, ren_exrow, renR_exrow, dL_zero]) ?_
  intro i hi ih
  have e0 : 0 + ((k : Nat) : Int).toNat = k := by omega
  have hfi := hf i
  have hla := dL_len f d i
  have hUf : r.U k i = f i - 1 := by rw [← hfe]; unfold pU; omega
  have hWk : Froz K (W k) n 1 (urow (r.U k)) := by rw [← hn]; exact hW k hk
  refine goR hB rfl rfl (by clear ih; first | exact conj_nil | simp [conj]) ?_
  refine run_open hK 24 hv (by decide) rfl (fun off => ?_)
  refine goR hB rfl rfl (by clear ih; simp [conj, hk]) ?_
  rw [e0]
  refine run_open hK 28 hWk (by decide) rfl (fun off2 => ?_)
  refine goRT hB [(54, 30)] 400 rfl (by clear ih; first | exact conj_nil | simp [conj]) ?_
  refine run_close (.inl rfl) ?_
  refine run_close (.inl rfl) ?_
  by_cases hin : i < n
  · have e1 : 0 + ((i : Nat) : Int).toNat = i := by omega
    refine run_tt (by simpa using hin) ?_
    refine goR hB rfl rfl (by clear ih; first | exact conj_nil | simp [conj]) ?_
    refine run_open hK 34 hv (by decide) rfl (fun off => ?_)
    refine goR hB rfl rfl (by clear ih; simp [conj, hk]) ?_
    rw [e0]
    refine run_open hK 38 hWk (by decide) rfl (fun off2 => ?_)
    refine goRT hB [(54, 43)] 400 rfl (by clear ih; simp [conj, hin]) ?_
    refine run_close (.inl rfl) ?_
    refine run_close (.inl rfl) ?_
    rw [e1, hUf]
    by_cases hp : 0 < f i
    · have hd1 : d i = true := by rw [hd]; simpa using hp
      have hpn : 0 ≤ (f i - 1) * un := Int.mul_nonneg (by omega) (Int.le_of_lt hu)
      have ih := ih (i + 1) (by omega) (by omega)
      rw [dL_yes f d i hd1] at ih
      refine run_tt (by simp; omega) ?_
      refine goR hB rfl rfl (by clear ih; simp [conj, Fits_i64]; omega) ?_
      refine run_back ?_
      refine run_to hpin [0, 1, 10] rfl rfl ?_ ih
      clear ih
      simp [conj, less_rfl, ren_exrow, renR_exrow]
      exact fun j k hj hk => Less.of (app_exrow un (dL f d i) (f i - 1) j k hj hk)
    · have hd0 : d i = false := by rw [hd]; simpa using hp
      have ih := ih (i + 1) (by omega) (by omega)
      rw [dL_no f d i hd0] at ih
      refine run_ff (by simp; omega) ?_
      refine goR hB rfl rfl (by clear ih; simp [conj, Fits_i64]; omega) ?_
      refine run_back ?_
      refine run_to hpin [0, 1, 2] rfl rfl ?_ ih
      clear ih
      simp [conj, less_rfl, ren_exrow, renR_exrow]
  · clear ih
    have hie : i = n := by omega
    subst hie
    refine run_ff (by simp) ?_
    refine goRT hB [] 1 rfl (by first | exact conj_nil | simp [conj]) ?_
    refine run_openB hK 0 2 hv (by decide) rfl rfl (fun _ => rfl) (fun _ => rfl) (fun off => ?_)
    refine goR hB rfl rfl (by simp [conj, Fits_i64]; (repeat' apply And.intro) <;> first | omega | exact fun a c _ _ => storable_rrow _ _ _ c) ?_
    refine run_close (.inl rfl) ?_
    refine run_to hpin [0, 1, 17, 2] (nx' := 4) (rest' := []) (sl' := [(6, i64 0), (5, .sq 3 0 0 2 (dL f d i).length .own), (4, .ptr 1 0)]) (hp' := [(0, .cells [.und, .und, .und] 50), (1, .cells [i64 un, i64 tot, .sq 2 0 0 3 (r.m - 1) .own] 50), (2, .row 0 (r.m - 1) (r.m - 1) 3 (rrow (delR r k) (delW W k)) 60), (3, .row 0 (dL f d i).length (dL f d i).length 2 (exrow un (dL f d i)) 71)]) rfl rfl ?_ ?_
    · simp [conj, less_rfl, ren_exrow, renR_exrow]
      exact ⟨by omega, by omega, fun a b _ _ => Less.of (by rw [ren_rrow]; exact del_row r W k _ a b)⟩
    refine run_freezeB (L := 2) (off := 0) (sz := 3) (m := r.m - 1) (ap := .own) hB hK 1 2 rfl rfl rfl rfl (Nat.le_refl _) (fun a c _ _ => closed_rrow _ _ a c) rfl (fun _ => rfl) (fun _ => rfl) (fun v3 B3 K3 hv3 hF3 hp3 => ?_)
    have hpin3 := hpin.fz hF3 hp3
    refine run_freeze hF3.ok hF3.le 5 rfl rfl (Nat.le_refl _) (fun a c _ _ => exrow_closed _ _ a c) rfl (fun v4 B4 K4 hv4 hF4 hp4 => ?_)
    refine run_retF (hF3.trans0 hF4 hK fun _ h => h.elim) (hpin3.fz hF4 hp4) (v3, v4) ⟨hv3.fz hF4, hv4⟩ [] rfl rfl (by first | exact conj_nil | simp [conj]) rfl ?_
    simp [conj, less_rfl]
end Sx
