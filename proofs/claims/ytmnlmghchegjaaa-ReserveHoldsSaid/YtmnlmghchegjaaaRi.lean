/- encode of package reserve. Conditions: as each theorem says. -/
import Derived.Test.YtmnlmghchegjaaaRh
set_option linter.unusedSimpArgs false
set_option linter.unusedVariables false
namespace Sx
open Go Go.Proofs
set_option maxRecDepth 100000
theorem wrap64 (x : Int) : IntKind.u64.wrap x = x % 18446744073709551616 := by
  have e : (2 : Int) ^ IntKind.u64.bits = 18446744073709551616 := by decide
  simp [IntKind.wrap, IntKind.signed, e]
def flagI (b : Bool) : Int := if b = true then 1 else 0
theorem flag_hc (b : Bool) : HC Try.prog 79 [.sb b] [] [] 0 (fun _ : Unit => True) (fun _ => ⟨.int .u8 (flagI b), [], 0⟩) := by
  refine hc_of_run Try.func79 rfl (fun B hB hpin => ?_)
  cases b with
  | true =>
    refine goB hB rfl rfl (by simp [conj]) ?_
    refine run_condT rfl rfl ?_
    refine goB hB rfl rfl (by simp [conj]) ?_
    exact run_retC hpin () trivial [] rfl rfl (by simp [conj]) rfl (by simp [conj, flagI])
  | false =>
    refine goB hB rfl rfl (by simp [conj]) ?_
    refine run_condF rfl rfl ?_
    refine goB hB rfl rfl (by simp [conj]) ?_
    exact run_retC hpin () trivial [] rfl rfl (by simp [conj]) rfl (by simp [conj, flagI])
def rcFlag (b : Bool) : RC := ⟨79, [.sb b], [], [], 0, .int .u8 (flagI b), [], 0, []⟩
def hdI (G T : Int) (p : Bool) (n : Nat) (i : Nat) : Int := if i < 4 then byteOf G i else if i = 4 then T % 256 else if i = 9 then flagI p else if 5 ≤ i ∧ i < 7 then byteOf n (i - 5) else 0
def entI (x : Reg) (b : Nat) : Int := if b < 2 then 255 else if b = 2 then flagI x.2.2 else if 8 ≤ b ∧ b < 16 then byteOf x.1 (b - 8) else if 16 ≤ b then byteOf x.2.1 (b - 16) else 0
/-- The encoding's bytes. -/
def encI (G T : Int) (p : Bool) (R : List Reg) (i : Nat) : Int := if i < 24 then hdI G T p R.length i else entI (regD R (i / 24 - 1)) (i % 24)
def encTo (G T : Int) (p : Bool) (R : List Reg) (k : Nat) (i : Nat) : Int := if i < 24 * (1 + k) then encI G T p R i else 0
/-- A report in range. -/
structure ROk (G T : Int) (R : List Reg) : Prop where
  g0 : 0 ≤ G
  g1 : G < 4294967296
  len : R.length < 65536
  k : ∀ i, i < R.length → 0 ≤ (regD R i).1 ∧ (regD R i).1 < 18446744073709551616 ∧ 0 ≤ (regD R i).2.1 ∧ (regD R i).2.1 < 18446744073709551616
def sbI (g : Nat → Int) (j : Nat) (x : Int) : Nat → Int := fun i => if i = j then x else g i
theorem upd_one (F : Nat → Nat → SV) (j : Nat) (x : Int) (i : Nat) : updF F j 0 (SV.int .u8 x).cells i 0 = if i = j then .int .u8 x else F i 0 := by
  by_cases e : i = j <;> simp [updF, SV.cells, e]
theorem less_upd (nx nx' : Nat) (sg sg' : List Nat) (g : Nat → Int) (j : Nat) (x : Int) (i : Nat) : Less (ren nx sg (byt (sbI g j x) i 0)) (updF (renR nx' sg' (byt g)) j 0 (SV.int .u8 x).cells i 0) := by
  rw [ren_byt, renR_byt, upd_one]
  refine Less.of ?_
  unfold byt sbI
  split <;> rfl
theorem less_upd2 (nx nx' : Nat) (sg sg' : List Nat) (g : Nat → Int) (j j2 : Nat) (x x2 : Int) (i : Nat) : Less (ren nx sg (byt (sbI (sbI g j x) j2 x2) i 0)) (updF (updF (renR nx' sg' (byt g)) j 0 (SV.int .u8 x).cells) j2 0 (SV.int .u8 x2).cells i 0) := by
  rw [ren_byt, renR_byt, upd_one, upd_one]
  refine Less.of ?_
  unfold byt sbI
  split
  · rfl
  · split <;> rfl
theorem enc_step (G T : Int) (p : Bool) (R : List Reg) (k i : Nat) : encTo G T p R (k + 1) i =
    cpyI (cpyI (sbI (cpyI (encTo G T p R k) (0 + 24 * (1 + k)) 2 65535) (0 + 24 * (1 + k) + Int.toNat 2) (flagI (regD R k).2.2)) (0 + 24 * (1 + k) + Int.toNat 8) 8 (regD R k).1) (0 + 24 * (1 + k) + Int.toNat 16) 8 (regD R k).2.1 i := by
  have t2 : Int.toNat 2 = 2 := rfl
  have t8 : Int.toNat 8 = 8 := rfl
  have t16 : Int.toNat 16 = 16 := rfl
  rw [t2, t8, t16]
  simp only [cpyI, sbI, encTo, Nat.zero_add]
  rcases Nat.lt_or_ge i (24 * (1 + k)) with h | h
  · rw [if_pos (by omega), if_neg (by omega), if_neg (by omega), if_neg (by omega), if_neg (by omega), if_pos h]
  · rcases Nat.lt_or_ge i (24 * (1 + k) + 24) with h2 | h2
    · obtain ⟨b, rfl⟩ : ∃ b, i = 24 * (1 + k) + b := ⟨i - 24 * (1 + k), by omega⟩
      have hb : b < 24 := by omega
      have d1 : (24 * (1 + k) + b) / 24 - 1 = k := by omega
      have d2 : (24 * (1 + k) + b) % 24 = b := by omega
      rw [if_pos (by omega)]
      simp only [encI]
      rw [if_neg (by omega), d1, d2]
      simp only [entI]
      by_cases c1 : b < 2
      · rw [if_pos c1, if_neg (by omega), if_neg (by omega), if_neg (by omega), if_pos (by omega), show 24 * (1 + k) + b - 24 * (1 + k) = b by omega]
        have hb2 : b = 0 ∨ b = 1 := by omega
        rcases hb2 with rfl | rfl <;> decide
      · rw [if_neg c1]
        by_cases c2 : b = 2
        · rw [if_pos c2, if_neg (by omega), if_neg (by omega), if_pos (by omega)]
        · rw [if_neg c2]
          by_cases c3 : 8 ≤ b ∧ b < 16
          · rw [if_pos c3, if_neg (by omega), if_pos (by omega), show 24 * (1 + k) + b - (24 * (1 + k) + 8) = b - 8 by omega]
          · rw [if_neg c3]
            by_cases c4 : 16 ≤ b
            · rw [if_pos c4, if_pos (by omega), show 24 * (1 + k) + b - (24 * (1 + k) + 16) = b - 16 by omega]
            · rw [if_neg c4, if_neg (by omega), if_neg (by omega), if_neg (by omega), if_neg (by omega), if_neg (by omega)]
    · rw [if_neg (by omega), if_neg (by omega), if_neg (by omega), if_neg (by omega), if_neg (by omega), if_neg (by omega)]
theorem encode_hc (G T : Int) (p : Bool) (R : List Reg) (hR : ROk G T R) (cap : Nat) (off : Nat := 0) :
    HC Try.prog 58 [rep G T p 0 R.length .no off] [] [(0, .row off R.length cap 3 (regR R) anyTy)] 1 (fun _ : Unit => True) (fun _ => ⟨.sq 1 0 0 1 (24 * (1 + R.length)) .own, [(1, .row 0 (24 * (1 + R.length)) (24 * (1 + R.length)) 1 (byt (encI G T p R)) 5)], 2⟩) := by
  have hlen := hR.len
  refine hc_of_run Try.func58 rfl (fun B hB hpin => ?_)
  refine goB hB rfl rfl (by simp [conj, Fits_i64]; omega) ?_
  have hN : (24 * (1 + (R.length : Int))).toNat = 24 * (1 + R.length) := by omega
  have hG : IntKind.u64.wrap G = G := by
    rw [wrap64]
    exact Int.emod_eq_of_lt hR.g0 (by have := hR.g1; omega)
  rw [hN, hG]
  refine run_callC (put_hc G 4 (by decide) (by decide) hR.g0 (by have := hR.g1; simpa using this) 0 (24 * (1 + R.length)) (24 * (1 + R.length)) (24 * (1 + R.length)) (fun _ => 0) (by omega) (by omega)) named hB [2] rfl rfl rfl rfl (by simp [conj]) (by simp [conj, less_rfl, ren_byt]; exact fun i _ => (Less.rfl : Less (.int .u8 0) (.int .u8 0))) ?_
  rintro ⟨⟩ _
  refine ⟨show 1 ≤ 1 by omega, _, _, _, rfl, rfl, rfl, ?_⟩
  generalize hg1 : cpyI (fun _ => 0) 0 4 G = g1
  refine goB hB rfl rfl (by simp [conj]) ?_
  refine run_draw0 mixed (fun t => ?_)
  refine run_drawC (M := modeB) 1 12 rfl named hB (sumOk_nil _) [(10, rcFlag p)] ⟨⟨flag_hc p, rfl, Nat.le_refl _⟩, trivial⟩ rfl rfl rfl rfl rfl rfl ?_ (fun t => ?_)
  · simp [conj, less_rfl, Fits_i64]
    omega
  refine run_drawE rfl ?_
  refine goB hB rfl rfl (by simp [conj, Fits_i64]; omega) ?_
  have hL64 : IntKind.u64.wrap (R.length : Int) = R.length := by
    rw [wrap64]; omega
  rw [hL64, wrap8]
  refine run_callC (put_hc (R.length : Int) 2 (by decide) (by decide) (by omega) (by omega) 5 (24 * (1 + R.length) - 5) (24 * (1 + R.length)) (24 * (1 + R.length)) (sbI (sbI g1 4 (T % 256)) 9 (flagI p)) (by omega) (by omega)) named hB [2] rfl rfl rfl rfl (by simp [conj]) (by
    simp [conj, less_rfl]
    exact fun i _ => less_upd2 _ _ _ _ _ _ _ _ _ _) ?_
  rintro ⟨⟩ _
  refine ⟨show 1 ≤ 1 by omega, _, _, _, rfl, rfl, rfl, ?_⟩
  have hg3 : ∀ i, encTo G T p R 0 i = cpyI (sbI (sbI g1 4 (T % 256)) 9 (flagI p)) 5 2 R.length i := by
    intro i
    subst hg1
    simp only [encTo, encI, hdI, cpyI, sbI, Nat.sub_zero]
    repeat' split
    all_goals first | rfl | omega
  generalize cpyI (sbI (sbI g1 4 (T % 256)) 9 (flagI p)) 5 2 R.length = g3 at hg3 ⊢
  refine goB hB rfl rfl (by simp [conj]) ?_
  refine run_loop ?_
  refine run_inv (ι := Nat) hpin (fun k => k ≤ R.length) (fun k => R.length - k) (fun k => [(39, i64 k), (38, i64 R.length), (37, .sq 0 off 0 3 R.length .no), (3, .sq 2 0 0 1 (24 * (1 + R.length)) .own), (1, .ptr 1 0)]) (fun _ => []) (fun k => [(1, .cells (repL G T p 0 R.length .no off) 67), (2, .row 0 (24 * (1 + R.length)) (24 * (1 + R.length)) 1 (byt (encTo G T p R k)) 5)]) 3 0 (Nat.zero_le _)
    [0, 1, 2] rfl rfl (by
      simp [conj, less_rfl, ren_regR, ren_byt, renR_byt]
      exact fun i _ => Less.of (by simp only [byt, hg3])) ?_
  intro k hk ih
  refine goB hB rfl rfl (by simp [conj]) ?_
  refine run_cond rfl (fun h => ?_) (fun h => ?_)
  · have hk1 : k < R.length := by simpa using h
    have ih := ih (k + 1) (by omega) (by omega)
    refine goB hB rfl rfl (by simp [conj, Fits_i64]; omega) ?_
    have e2 : (24 * (1 + (k : Int)) + 24).toNat - (24 * (1 + (k : Int))).toNat = 24 := by omega
    have e1 : (24 * (1 + (k : Int))).toNat = 24 * (1 + k) := by omega
    rw [e2, e1]
    refine run_callC (put_hc 65535 2 (by decide) (by decide) (by decide) (by decide) (0 + 24 * (1 + k)) 24 (24 * (1 + R.length)) (24 * (1 + R.length)) (encTo G T p R k) (by omega) (by omega)) named hB [2] rfl rfl rfl rfl (by simp [conj]) (by simp [conj, less_rfl, ren_byt]) ?_
    rintro ⟨⟩ _
    refine ⟨show 1 ≤ 1 by omega, _, _, _, rfl, rfl, rfl, ?_⟩
    generalize hg4 : cpyI (encTo G T p R k) (0 + 24 * (1 + k)) 2 65535 = g4
    refine goB hB rfl rfl (by simp [conj]) ?_
    refine run_callC (flag_hc (regD R (0 + (k : Int).toNat)).2.2) named hB [] rfl rfl rfl rfl (by simp [conj]) (by simp [conj]) ?_
    rintro ⟨⟩ _
    refine ⟨show 0 ≤ 0 by omega, _, _, _, rfl, rfl, rfl, ?_⟩
    refine goB hB rfl rfl (by simp [conj]; try omega) ?_
    have ek : 0 + (k : Int).toNat = k := by omega
    rw [ek]
    obtain ⟨r1, r2, r3, r4⟩ := hR.k k hk1
    refine run_callC (put_hc (regD R k).1 8 (by decide) (by decide) r1 (by simpa using r2) (0 + 24 * (1 + k) + Int.toNat 8) (24 - Int.toNat 8) (24 * (1 + R.length)) (24 * (1 + R.length)) (sbI g4 (0 + 24 * (1 + k) + Int.toNat 2) (flagI (regD R k).2.2)) (by decide) (by simp; omega)) named hB [2] rfl rfl rfl rfl (by simp [conj]) (by
      simp [conj, less_rfl]
      exact fun i _ => less_upd _ _ _ _ _ _ _ _) ?_
    rintro ⟨⟩ _
    refine ⟨show 1 ≤ 1 by omega, _, _, _, rfl, rfl, rfl, ?_⟩
    generalize hg5 : cpyI (sbI g4 (0 + 24 * (1 + k) + Int.toNat 2) (flagI (regD R k).2.2)) (0 + 24 * (1 + k) + Int.toNat 8) 8 (regD R k).1 = g5
    refine goB hB rfl rfl (by simp [conj]; try omega) ?_
    refine run_callC (put_hc (regD R k).2.1 8 (by decide) (by decide) r3 (by simpa using r4) (0 + 24 * (1 + k) + Int.toNat 16) (24 - Int.toNat 16) (24 * (1 + R.length)) (24 * (1 + R.length)) g5 (by decide) (by simp; omega)) named hB [2] rfl rfl rfl rfl (by simp [conj]) (by simp [conj, less_rfl, ren_byt, renR_byt]) ?_
    rintro ⟨⟩ _
    refine ⟨show 1 ≤ 1 by omega, _, _, _, rfl, rfl, rfl, ?_⟩
    have hstep : ∀ i, encTo G T p R (k + 1) i = cpyI g5 (0 + 24 * (1 + k) + Int.toNat 16) 8 (regD R k).2.1 i := by
      intro i
      subst hg5 hg4
      exact enc_step G T p R k i
    generalize cpyI g5 (0 + 24 * (1 + k) + Int.toNat 16) 8 (regD R k).2.1 = g6 at hstep ⊢
    refine goB hB rfl rfl (by simp [conj, Fits_i64]; omega) ?_
    refine run_back ?_
    refine run_to hpin [0, 1, 2] rfl rfl ?_ ih
    clear ih
    simp [conj, less_rfl, ren_regR, ren_byt, renR_byt]
    exact fun i _ => Less.of (by simp only [byt, hstep])
  · clear ih
    have : k = R.length := by simp at h; omega
    subst this
    refine goB hB rfl rfl (by simp [conj]) ?_
    refine run_retC hpin () trivial [0, 2] rfl rfl (by simp [conj]) rfl ?_
    simp [conj, less_rfl, ren_byt, renR_byt, ren_regR]
    exact fun i hi => Less.of (by simp only [byt, encTo]; rw [if_pos hi])
end Sx
