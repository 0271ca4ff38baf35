/- Bytes of the reference. Conditions: as each theorem says. -/
import Derived.Test.YtmnlmghchegjaaaRtb
set_option linter.unusedSimpArgs false
set_option linter.unusedVariables false
namespace Sx
open Go Go.Proofs
set_option maxRecDepth 100000
set_option pp.deepTerms true
set_option pp.maxSteps 10000000
def rcLit (v : Int) (n : Nat) : RC := ⟨62, [u64 v, i64 n], [], [], 0, .sq 0 0 0 1 n .own, [(0, .row 0 n n 1 (byR v) 5)], 1, []⟩
theorem rcLit_ok (v : Int) (n : Nat) (h8 : n ≤ 8) : RcOk Try.prog (rcLit v n) := ⟨little_hc v n h8, rfl, Nat.zero_le _⟩
theorem flagR_hc (b : Bool) : HC Try.prog 63 [.sb b] [] [] 0 (fun _ : Unit => True) (fun _ => ⟨.int .u8 (flagI b), [], 0⟩) := by
  refine hc_of_run Try.func63 rfl (fun B hB hpin => ?_)
  cases b with
  | true =>
    refine goV2 hB rfl rfl (by simp [conj]) ?_
    refine run_condT rfl rfl ?_
    refine goV2 hB rfl rfl (by simp [conj]) ?_
    exact run_retC hpin () trivial [] rfl rfl (by simp [conj]) rfl (by simp [conj, flagI])
  | false =>
    refine goV2 hB rfl rfl (by simp [conj]) ?_
    refine run_condF rfl rfl ?_
    refine goV2 hB rfl rfl (by simp [conj]) ?_
    exact run_retC hpin () trivial [] rfl rfl (by simp [conj]) rfl (by simp [conj, flagI])
def rcFl (b : Bool) : RC := ⟨63, [.sb b], [], [], 0, .int .u8 (flagI b), [], 0, []⟩
theorem rcFl_ok (b : Bool) : RcOk Try.prog (rcFl b) := ⟨flagR_hc b, rfl, Nat.le_refl _⟩
theorem appF_lt {f g : Nat → Nat → SV} {n i k : Nat} (h : i < n) : appF f n g i k = f i k := by unfold appF; rw [blt_true h]; rfl
theorem appF_ge {f g : Nat → Nat → SV} {n i k : Nat} (h : n ≤ i) : appF f n g i k = g (i - n) k := by unfold appF; rw [blt_false (by omega)]; rfl
theorem hd_row (G T : Int) (p : Bool) (R : List Reg) (i : Nat) (hi : i < 24) : Less (byt (encI G T p R) i 0) (appF (appF (appF (appF (byR G) 4 fun i k => [SV.int IntKind.u8 (IntKind.u8.wrap T)][i + k]?.getD SV.und) 5 fun i k => byR R.length i k) 7 fun i k => [SV.int IntKind.u8 0, SV.int IntKind.u8 0, SV.int IntKind.u8 (flagI p)][i + k]?.getD SV.und) 10 (fun _ _ => SV.int IntKind.u8 0) i 0) := by
  refine Less.of ?_
  simp only [byt, encI]
  rw [if_pos hi]
  simp only [hdI]
  by_cases c1 : i < 4
  · rw [appF_lt (by omega), appF_lt (by omega), appF_lt (by omega), appF_lt c1, if_pos c1]; rfl
  rw [if_neg c1]
  by_cases c2 : i = 4
  · subst c2
    rw [appF_lt (by omega), appF_lt (by omega), appF_lt (by omega), appF_ge (by omega), if_pos rfl, wrap8]; rfl
  rw [if_neg c2]
  by_cases c3 : 5 ≤ i ∧ i < 7
  · rw [appF_lt (by omega), appF_lt (by omega), appF_ge (by omega), if_neg (by omega), if_pos c3]; rfl
  by_cases c4 : i < 10
  · rw [appF_lt c4, appF_ge (by omega)]
    have : i = 7 ∨ i = 8 ∨ i = 9 := by omega
    rcases this with rfl | rfl | rfl <;> rfl
  · rw [appF_ge (by omega), if_neg (by omega), if_neg c3]
theorem ent_row (G T : Int) (p : Bool) (R : List Reg) (k i : Nat) (hi : i < 24 * (1 + (k + 1))) : Less (byt (encI G T p R) i 0) (appF (appF (appF (byt (encI G T p R)) (24 * (1 + k)) fun i k_1 => [SV.int IntKind.u8 255, SV.int IntKind.u8 255, SV.int IntKind.u8 (flagI (regD R k).2.2), SV.int IntKind.u8 0, SV.int IntKind.u8 0, SV.int IntKind.u8 0, SV.int IntKind.u8 0, SV.int IntKind.u8 0][i + k_1]?.getD SV.und) (24 * (1 + k) + 8) fun i k_1 => byR (regD R k).1 i k_1) (24 * (1 + k) + 8 + 8) (fun i k_1 => byR (regD R k).2.1 i k_1) i 0) := by
  refine Less.of ?_
  by_cases c0 : i < 24 * (1 + k)
  · rw [appF_lt (by omega), appF_lt (by omega), appF_lt c0]
  obtain ⟨b, rfl⟩ : ∃ b, i = 24 * (1 + k) + b := ⟨i - 24 * (1 + k), by omega⟩
  have hb : b < 24 := by omega
  simp only [byt]
  rw [enc_at _ _ _ _ _ _ hb]
  simp only [entI]
  by_cases c1 : b < 8
  · rw [appF_lt (by omega), appF_lt (by omega), appF_ge (by omega), show 24 * (1 + k) + b - 24 * (1 + k) = b by omega]
    have : b = 0 ∨ b = 1 ∨ b = 2 ∨ b = 3 ∨ b = 4 ∨ b = 5 ∨ b = 6 ∨ b = 7 := by omega
    rcases this with rfl | rfl | rfl | rfl | rfl | rfl | rfl | rfl <;> rfl
  by_cases c2 : b < 16
  · rw [appF_lt (by omega), appF_ge (by omega), if_neg (by omega), if_neg (by omega), if_pos (by omega), show 24 * (1 + k) + b - (24 * (1 + k) + 8) = b - 8 by omega]; rfl
  · rw [appF_ge (by omega), if_neg (by omega), if_neg (by omega), if_neg (by omega), if_pos (by omega), show 24 * (1 + k) + b - (24 * (1 + k) + 8 + 8) = b - 16 by omega]; rfl
theorem bytes_hc (G T : Int) (p : Bool) (R : List Reg) (hR : ROk G T R) (cap : Nat) (off : Nat := 0) :
    HC Try.prog 29 [rep G T p 0 R.length .no off] [] [(0, .row off R.length cap 3 (regR R) anyTy)] 1 (fun _ : Unit => True) (fun _ => ⟨.sq 1 0 0 1 (24 * (1 + R.length)) .own, [(1, .row 0 (24 * (1 + R.length)) (24 * (1 + R.length)) 1 (byt (encI G T p R)) 5)], 2⟩) := by
  have hlen := hR.len
  refine hc_of_run Try.func29 rfl (fun B hB hpin => ?_)
  refine goV2 hB rfl rfl (by simp [conj]) ?_
  refine run_draw0 mixed (fun t => ?_)
  have hG : IntKind.u64.wrap G = G := by
    rw [wrap64]
    exact Int.emod_eq_of_lt hR.g0 (by have := hR.g1; omega)
  refine run_drawC (M := modeV) 1 10 rfl named hB (sumOk_nil _) [(5, rcLit G 4)] ⟨rcLit_ok _ _ (by decide), trivial⟩ rfl rfl rfl rfl rfl rfl ?_ (fun t => ?_)
  · simp [conj, less_rfl, SO.Live, Fits_i64, hG]
  refine run_drawE rfl ?_
  refine goV2 hB rfl rfl (by simp [conj]) ?_
  have hw := wrap64 (R.length : Int)
  have hw : IntKind.u64.wrap (R.length : Int) = (R.length : Int) := by rw [wrap64]; omega
  refine run_draw0 mixed (fun t => ?_)
  refine run_drawC (M := modeV) 1 13 rfl named hB (sumOk_nil _) [(17, rcLit R.length 2), (21, rcFl p)] ⟨rcLit_ok _ _ (by decide), rcFl_ok _, trivial⟩ rfl rfl rfl rfl rfl rfl ?_ (fun t => ?_)
  · simp [conj, less_rfl, SO.Live, Fits_i64, hw, renR_byR]
    exact fun i _ => rfl
  refine run_drawE rfl ?_
  refine goV2 hB rfl rfl (by simp [conj]) ?_
  refine run_loop ?_
  refine run_inv (ι := Nat) hpin (fun k => k ≤ R.length) (fun k => R.length - k) (fun k => [(4, i64 k), (3, .sq 2 0 0 1 (24 * (1 + k)) .own), (1, .ptr 1 0)]) (fun _ => []) (fun k => [(1, .cells (repL G T p 0 R.length .no off) 67), (2, .row 0 (24 * (1 + k)) (24 * (1 + k)) 1 (byt (encI G T p R)) 5)]) 3 0 (Nat.zero_le _)
    [0, 1, 25] rfl rfl ?_ ?_
  · simp [conj, less_rfl, ren_regR, ren_byt, renR_byR]
    intro i hi
    exact hd_row G T p R i hi
  intro k hk ih
  refine goV2 hB rfl rfl (by simp [conj]) ?_
  refine run_cond rfl (fun h => ?_) (fun h => ?_)
  · have hk1 : k < R.length := by simpa using h
    have ih := ih (k + 1) (by omega) (by omega)
    refine goV2 hB rfl rfl (by simp [conj, Fits_i64]; omega) ?_
    refine run_callC (flagR_hc (regD R k).2.2) named hB [] rfl rfl rfl rfl (by simp [conj]) (by simp [conj]) ?_
    rintro ⟨⟩ _
    refine ⟨show 0 ≤ 0 by omega, _, _, _, rfl, rfl, rfl, ?_⟩
    refine goV2 hB rfl rfl (by simp [conj, Fits_i64]; omega) ?_
    refine run_draw0 mixed (fun t => ?_)
    refine run_drawC (M := modeV) 1 10 rfl named hB (sumOk_nil _) [(9, rcLit (regD R k).1 8), (13, rcLit (regD R k).2.1 8)] ⟨rcLit_ok _ _ (by decide), rcLit_ok _ _ (by decide), trivial⟩ rfl rfl rfl rfl rfl rfl ?_ (fun t => ?_)
    · simp [conj, less_rfl, SO.Live, Fits_i64, renR_byR]
      repeat' apply And.intro
      all_goals first | omega | exact fun i _ => rfl | exact .inl (by omega)
    refine run_drawE rfl ?_
    refine goV2 hB rfl rfl (by simp [conj, Fits_i64]; try omega) ?_
    refine run_back ?_
    refine run_to hpin [0, 1, 14] rfl rfl ?_ ih
    clear ih
    simp [conj, less_rfl, ren_regR, ren_byt, renR_byt, renR_byR]
    exact ⟨by omega, by omega, fun i hi => ent_row G T p R k i hi⟩
  · clear ih
    have : k = R.length := by simp at h; omega
    subst this
    refine goV2 hB rfl rfl (by simp [conj]) ?_
    refine run_retC hpin () trivial [0, 2] rfl rfl (by simp [conj]) rfl ?_
    simp [conj, less_rfl, ren_byt, ren_regR]
end Sx
