/- slices.Equal on bytes, Decode of an encoding. Conditions: as each theorem says. -/
import Derived.Test.YtmnlmghchegjaaaRi
set_option linter.unusedSimpArgs false
set_option linter.unusedVariables false
namespace Sx
open Go Go.Proofs
set_option maxRecDepth 100000
theorem blt_true {a b : Nat} (h : a < b) : Nat.blt a b = true := by simpa [Nat.blt_eq] using h
theorem blt_false {a b : Nat} (h : ¬ a < b) : Nat.blt a b = false := by
  cases hq : Nat.blt a b with
  | false => rfl
  | true => rw [Nat.blt_eq] at hq; omega
theorem equal_hc (g : Nat → Int) (n c1 c2 : Nat) (hn : n < 100000000) : HC Try.prog 60 [.sq 0 0 0 1 n .no, .sq 1 0 0 1 n .no] [] [(0, .row 0 n c1 1 (byt g) anyTy), (1, .row 0 n c2 1 (byt g) anyTy)] 2 (fun _ : Unit => True) (fun _ => ⟨.tt, [], 2⟩) := by
  refine hc_of_run Try.func60 rfl (fun B hB hpin => ?_)
  refine goB hB rfl rfl (by simp [conj]) ?_
  refine run_condF rfl (by simp) ?_
  refine goB hB rfl rfl (by simp [conj]) ?_
  refine run_loop ?_
  refine run_inv (ι := Nat) hpin (fun i => i ≤ n) (fun i => n - i) (fun i => [(13, i64 i), (12, i64 n), (0, .sq 0 0 0 1 n .no), (1, .sq 1 0 0 1 n .no), (4, .ff)]) (fun _ => []) (fun _ => []) 2 0 (Nat.zero_le _)
    [0, 1] rfl rfl (by simp [conj, less_rfl, ren_byt]) ?_
  intro i hi ih
  refine goB hB rfl rfl (by simp [conj]) ?_
  refine run_cond rfl (fun h => ?_) (fun h => ?_)
  · have hi1 : i < n := by simpa using h
    have ih := ih (i + 1) (by omega) (by omega)
    refine goB hB rfl rfl (by simp [conj]; omega) ?_
    refine run_condF rfl (by simp) ?_
    refine goB hB rfl rfl (by simp [conj, Fits_i64]; omega) ?_
    refine run_back ?_
    refine run_to hpin [0, 1] rfl rfl ?_ ih
    clear ih
    simp [conj, less_rfl, ren_byt]
  · clear ih
    refine goB hB rfl rfl (by simp [conj]) ?_
    exact run_retC hpin () trivial [0, 1] rfl rfl (by simp [conj]) rfl (by simp [conj, less_rfl, ren_byt])
def rcGet (g : Nat → Int) (N cap s n : Nat) (v : Int) : RC := ⟨59, [.sq 0 0 s 1 n .no], [], [(0, .row 0 N cap 1 (byt g) anyTy)], 1, u64 v, [], 1, [0]⟩
theorem enc_n (G T : Int) (p : Bool) (R : List Reg) (i : Nat) (hi : i < 2) : encI G T p R (5 + i) = byteOf R.length i := by
  simp only [encI, hdI]
  rw [if_pos (by omega), if_neg (by omega), if_neg (by omega), if_neg (by omega), if_pos (by omega), show 5 + i - 5 = i by omega]
theorem enc_g (G T : Int) (p : Bool) (R : List Reg) (i : Nat) (hi : i < 4) : encI G T p R (0 + i) = byteOf G i := by
  simp only [encI, hdI, Nat.zero_add]
  rw [if_pos (by omega), if_pos hi]
theorem enc_at (G T : Int) (p : Bool) (R : List Reg) (k b : Nat) (hb : b < 24) : encI G T p R (24 * (1 + k) + b) = entI (regD R k) b := by
  simp only [encI]
  rw [if_neg (by omega), show (24 * (1 + k) + b) / 24 - 1 = k by omega, show (24 * (1 + k) + b) % 24 = b by omega]
theorem enc_h (G T : Int) (p : Bool) (R : List Reg) (k i : Nat) (hi : i < 8) : encI G T p R (24 * (1 + k) + 8 + i) = byteOf (regD R k).1 i := by
  rw [Nat.add_assoc, enc_at _ _ _ _ _ _ (by omega)]
  simp only [entI]
  rw [if_neg (by omega), if_neg (by omega), if_pos (by omega), show 8 + i - 8 = i by omega]
theorem enc_k (G T : Int) (p : Bool) (R : List Reg) (k i : Nat) (hi : i < 8) : encI G T p R (24 * (1 + k) + 16 + i) = byteOf (regD R k).2.1 i := by
  rw [Nat.add_assoc, enc_at _ _ _ _ _ _ (by omega)]
  simp only [entI]
  rw [if_neg (by omega), if_neg (by omega), if_neg (by omega), if_pos (by omega), show 16 + i - 16 = i by omega]
theorem wrapI (x : Int) (h0 : 0 ≤ x) (h1 : x < 9223372036854775808) : IntKind.i64.wrap x = x := by
  simp [IntKind.wrap, IntKind.bits, IntKind.signed]
  omega
theorem wrap32 (x : Int) (h0 : 0 ≤ x) (h1 : x < 4294967296) : IntKind.u32.wrap x = x := by
  simp [IntKind.wrap, IntKind.bits, IntKind.signed]
  omega
def rcG (g : Nat → Int) (N cap s n : Nat) (v : Int) : RC := rcGet g N cap s n v
theorem decode_hc (G T : Int) (p : Bool) (R : List Reg) (hR : ROk G T R) (hv : VOk T R) (cap : Nat) :
    HC Try.prog 26 [.sq 0 0 0 1 (24 * (1 + R.length)) .no] [] [(0, .row 0 (24 * (1 + R.length)) cap 1 (byt (encI G T p R)) anyTy)] 1 (fun _ : Unit => True)
      (fun _ => ⟨.tup [rep G T p 1 R.length .own, i64 0], [(1, .row 0 R.length R.length 3 (regR R) 82)], 2⟩) := by
  have hlen := hv.len
  refine hc_of_run Try.func26 rfl (fun B hB hpin => ?_)
  refine goB hB rfl rfl (by simp [conj]) ?_
  refine run_condF rfl (by simp; omega) ?_
  refine goB hB rfl rfl (by simp [conj]; omega) ?_
  refine run_callC (get_hc (R.length : Int) 2 (by decide) (by decide) (by omega) (by omega) 5 (24 * (1 + R.length)) cap (encI G T p R) (by omega) (fun i hi => enc_n G T p R i hi)) named hB [0] rfl rfl rfl rfl (by simp [conj]) (by simp [conj, less_rfl, ren_byt]) ?_
  rintro ⟨⟩ _
  refine ⟨show 1 ≤ 1 by omega, _, _, _, rfl, rfl, rfl, ?_⟩
  have hw := wrapI (R.length : Int) (by omega) (by omega)
  refine goB hB rfl rfl (by simp [conj, Fits_i64, hw]; omega) ?_
  rw [hw]
  refine run_condF rfl (by simp) ?_
  refine goB hB rfl rfl (by simp [conj, Fits_i64]; try omega) ?_
  refine run_condF rfl (by simp) ?_
  refine goB hB rfl rfl (by simp [conj, Fits_i64]; try omega) ?_
  refine run_draw0 mixed (fun t => ?_)
  refine run_drawC (M := modeB) 1 15 rfl named hB (sumOk_nil _) [(4, rcGet (encI G T p R) (24 * (1 + R.length)) cap 0 4 G)] ⟨⟨get_hc G 4 (by decide) (by decide) hR.g0 (by have := hR.g1; simpa using this) 0 (24 * (1 + R.length)) cap (encI G T p R) (by omega) (fun i hi => enc_g G T p R i hi), rfl, Nat.le_refl _⟩, trivial⟩ rfl rfl rfl rfl rfl rfl ?_ (fun t => ?_)
  · simp [conj, less_rfl, SO.Live, ren_byt]
    omega
  refine run_drawE rfl ?_
  refine goB hB rfl rfl (by simp [conj]) ?_
  have hT0 := hv.t0
  have hT6 := hv.t6
  have h4 : IntKind.i64.wrap (encI G T p R (0 + Int.toNat 4)) = T := by
    have : encI G T p R (0 + Int.toNat 4) = T % 256 := rfl
    rw [this, show T % 256 = T by omega]
    exact wrapI T hT0 (by omega)
  have h9 : decide (encI G T p R (0 + Int.toNat 9) = 1) = p := by
    have : encI G T p R (0 + Int.toNat 9) = flagI p := rfl
    rw [this]
    cases p <;> rfl
  have hG := wrap32 G hR.g0 hR.g1
  rw [h4, h9, hG]
  refine run_loop ?_
  refine run_inv (ι := Nat) hpin (fun k => k ≤ R.length) (fun k => R.length - k) (fun k => [(46, i64 k), (45, i64 R.length), (6, .ptr 1 0), (0, .sq 0 0 0 1 (24 * (1 + R.length)) .no), (2, .ptr 2 0), (3, i64 0)]) (fun _ => []) (fun k => [(1, .cells (repL G T p 3 k .own) 67), (2, .cells [.int .u32 0, i64 0, .ff, .nilsl] 67), (3, .row 0 k k 3 (regR R) 82)]) 4 0 (Nat.zero_le _)
    [0, 15, 1, 17] rfl rfl (by simp [conj, less_rfl, ren_regR, ren_byt, renR_byt]) ?_
  intro k hk ih
  refine goB hB rfl rfl (by simp [conj]) ?_
  refine run_cond rfl (fun h => ?_) (fun h => ?_)
  · have hk1 : k < R.length := by simpa using h
    have ih := ih (k + 1) (by omega) (by omega)
    obtain ⟨r1, r2, r3, r4⟩ := hR.k k hk1
    refine goB hB rfl rfl (by simp [conj, Fits_i64]; omega) ?_
    have e1 : (24 * (1 + (k : Int))).toNat = 24 * (1 + k) := by omega
    rw [e1]
    refine run_draw0 mixed (fun t => ?_)
    refine run_drawC (M := modeB) 1 17 rfl named hB (sumOk_nil _) [(8, rcGet (encI G T p R) (24 * (1 + R.length)) cap (24 * (1 + k) + 8) 8 (regD R k).1), (11, rcGet (encI G T p R) (24 * (1 + R.length)) cap (24 * (1 + k) + 16) 8 (regD R k).2.1)]
      ⟨⟨get_hc (regD R k).1 8 (by decide) (by decide) r1 (by simpa using r2) (24 * (1 + k) + 8) (24 * (1 + R.length)) cap (encI G T p R) (by omega) (fun i hi => enc_h G T p R k i hi), rfl, Nat.le_refl _⟩,
       ⟨get_hc (regD R k).2.1 8 (by decide) (by decide) r3 (by simpa using r4) (24 * (1 + k) + 16) (24 * (1 + R.length)) cap (encI G T p R) (by omega) (fun i hi => enc_k G T p R k i hi), rfl, Nat.le_refl _⟩, trivial⟩ rfl rfl rfl rfl rfl rfl ?_ (fun t => ?_)
    · simp [conj, less_rfl, SO.Live, ren_byt]
      repeat' apply And.intro
      all_goals first | omega | exact .inl (by omega)
    refine run_drawE rfl ?_
    refine goB hB rfl rfl (by simp [conj, Fits_i64]; try omega) ?_
    have h2 : decide (encI G T p R (0 + 24 * (1 + k) + Int.toNat 2) = 1) = (regD R k).2.2 := by
      rw [Nat.zero_add, show Int.toNat 2 = 2 from rfl, enc_at _ _ _ _ _ _ (by decide)]
      simp only [entI]
      rw [if_neg (by decide), if_pos trivial]
      unfold flagI
      cases (regD R k).2.2 <;> rfl
    rw [h2]
    refine run_back ?_
    refine run_to hpin [0, 1, 2, 18] rfl rfl ?_ ih
    clear ih
    simp [conj, less_rfl, ren_regR, renR_regR, ren_byt]
    intro i c hi hc
    refine Less.of ?_
    unfold appF
    by_cases e : i < k
    · rw [blt_true e]; rfl
    · have e2 : i = k := by omega
      subst e2
      rw [blt_false e]
      match c, hc with
      | 0, _ => simp [regR]
      | 1, _ => simp [regR]
      | 2, _ => simp [regR]
  · clear ih
    have : k = R.length := by simp at h; omega
    subst this
    refine goB hB rfl rfl (by simp [conj]) ?_
    refine run_callC (valid_hc G T p R hv R.length) named hB [3] rfl rfl rfl rfl (by simp [conj]) (by simp [conj, less_rfl, ren_regR]) ?_
    rintro ⟨⟩ _
    refine ⟨show 1 ≤ 1 by omega, _, _, _, rfl, rfl, rfl, ?_⟩
    refine goB hB rfl rfl (by simp [conj]) ?_
    refine run_callC (encode_hc G T p R hR R.length) named hB [3] rfl rfl rfl rfl (by simp [conj]) (by simp [conj, less_rfl, ren_regR]) ?_
    rintro ⟨⟩ _
    refine ⟨show 1 ≤ 2 by omega, _, _, _, rfl, rfl, rfl, ?_⟩
    refine goB hB rfl rfl (by simp [conj]) ?_
    refine run_callC (equal_hc (encI G T p R) (24 * (1 + R.length)) (24 * (1 + R.length)) cap (by omega)) named hB [4, 0] rfl rfl rfl rfl (by simp [conj]) (by simp [conj, less_rfl, ren_byt, renR_byt]) ?_
    rintro ⟨⟩ _
    refine ⟨show 2 ≤ 2 by omega, _, _, _, rfl, rfl, rfl, ?_⟩
    refine goB hB rfl rfl (by simp [conj]) ?_
    refine run_retC hpin () trivial [0, 3] rfl rfl (by simp [conj]) rfl ?_
    simp [conj, less_rfl, ren_byt, ren_regR, renR_regR]
end Sx
