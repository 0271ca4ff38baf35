/- Valid and Bytes of the reference at a report without registrations. Conditions: as each theorem says. -/
import Derived.Test.YtmnlmghchegjaaaRtc
set_option linter.unusedSimpArgs false
set_option linter.unusedVariables false
namespace Sx
open Go Go.Proofs
set_option maxRecDepth 100000
theorem validR0_hc (G : Int) (p : Bool) (i : Nat) : HC Try.prog 28 [rep G 0 p i 0 .no] [] [] 0 (fun _ : Unit => True) (fun _ => ⟨.tt, [], 0⟩) := by
  refine hc_of_run Try.func28 rfl (fun B hB hpin => ?_)
  refine goX hB 600 rfl (by simp [conj, Fits_i64]) ?_
  exact run_retC hpin () trivial [] rfl rfl (by simp [conj]) rfl (by simp [conj])
theorem bytes0_hc (G T : Int) (p : Bool) (i : Nat) (g0 : 0 ≤ G) (g1 : G < 4294967296) :
    HC Try.prog 29 [rep G T p i 0 .no] [] [] 0 (fun _ : Unit => True) (fun _ => ⟨.sq 0 0 0 1 24 .own, [(0, .row 0 24 24 1 (byt (encI G T p [])) 5)], 1⟩) := by
  refine hc_of_run Try.func29 rfl (fun B hB hpin => ?_)
  refine goV2 hB rfl rfl (by simp [conj]) ?_
  refine run_draw0 mixed (fun t => ?_)
  have hG : IntKind.u64.wrap G = G := by
    rw [wrap64]
    exact Int.emod_eq_of_lt g0 (by omega)
  refine run_drawC (M := modeV) 1 10 rfl named hB (sumOk_nil _) [(4, rcLit G 4)] ⟨rcLit_ok _ _ (by decide), trivial⟩ rfl rfl rfl rfl rfl rfl ?_ (fun t => ?_)
  · simp [conj, less_rfl, SO.Live, Fits_i64, hG]
  refine run_drawE rfl ?_
  refine goV2 hB rfl rfl (by simp [conj]) ?_
  have hw : IntKind.u64.wrap (0 : Int) = 0 := by decide
  refine run_draw0 mixed (fun t => ?_)
  refine run_drawC (M := modeV) 1 13 rfl named hB (sumOk_nil _) [(16, rcLit 0 2), (20, rcFl p)] ⟨rcLit_ok _ _ (by decide), rcFl_ok _, trivial⟩ rfl rfl rfl rfl rfl rfl ?_ (fun t => ?_)
  · simp [conj, less_rfl, SO.Live, Fits_i64, hw, renR_byR]
    exact fun i _ => rfl
  refine run_drawE rfl ?_
  refine goV2 hB rfl rfl (by simp [conj]) ?_
  refine run_loop ?_
  refine goV2 hB rfl rfl (by simp [conj]) ?_
  refine run_condF rfl (by simp) ?_
  refine goV2 hB rfl rfl (by simp [conj]) ?_
  refine run_retC hpin () trivial [24] rfl rfl (by simp [conj]) rfl ?_
  simp [conj, less_rfl, ren_byt, renR_byR]
  intro i hi
  exact hd_row G T p [] i hi
theorem validR0x_hc (G T : Int) (p : Bool) (i : Nat) (hT : Fits .i64 T) : HC Try.prog 28 [rep G T p i 0 .no] [] [] 0 (fun _ : Unit => True) (fun _ => ⟨.sb (decide (T = 0)), [], 0⟩) := by
  refine hc_of_run Try.func28 rfl (fun B hB hpin => ?_)
  refine goV2 hB rfl rfl (by simp [conj]) ?_
  refine run_loop ?_
  refine goV2 hB rfl rfl (by simp [conj]) ?_
  refine run_condF rfl (by simp) ?_
  refine goV2 hB rfl rfl (by simp [conj]) ?_
  refine run_cond rfl (fun hb => ?_) (fun hb => ?_)
  · refine goV2 hB rfl rfl (by simp [conj]) ?_
    refine run_retC hpin () trivial [] rfl rfl (by simp [conj]) rfl ?_
    have : T ≠ 0 := by
      simp at hb
      omega
    simp [conj, this]
  have hb' : 0 ≤ T ∧ T ≤ 6 := by
    simp at hb
    omega
  refine goV2 hB rfl rfl (by simp [conj]) ?_
  refine run_cond rfl (fun ht => ?_) (fun ht => ?_)
  · have ht' : T = 0 := by simpa using ht
    refine goV2 hB rfl rfl (by simp [conj]) ?_
    exact run_retC hpin () trivial [] rfl rfl (by simp [conj]) rfl (by simp [conj, ht'])
  have ht0 : T ≠ 0 := by simpa using ht
  refine goV2 hB rfl rfl (by simp [conj]) ?_
  refine run_cond rfl (fun ht => ?_) (fun ht => ?_)
  · refine goV2 hB rfl rfl (by simp [conj]) ?_
    exact run_retC hpin () trivial [] rfl rfl (by simp [conj]) rfl (by simp [conj, ht0])
  · refine goV2 hB rfl rfl (by simp [conj]) ?_
    exact run_retC hpin () trivial [] rfl rfl (by simp [conj]) rfl (by simp [conj, ht0])
def rcVal0 (G T : Int) (p : Bool) (i : Nat) (r : SV) : RC := ⟨28, [rep G T p i 0 .no], [], [], 0, r, [], 0, []⟩
def rcByt0 (G T : Int) (p : Bool) (i : Nat) : RC := ⟨29, [rep G T p i 0 .no], [], [], 0, .sq 0 0 0 1 24 .own, [(0, .row 0 24 24 1 (byt (encI G T p [])) 5)], 1, []⟩
end Sx
