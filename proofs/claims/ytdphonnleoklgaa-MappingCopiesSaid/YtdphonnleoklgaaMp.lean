/- The reference's Of. Conditions: as the theorem says. -/
import Derived.Test.YtdphonnleoklgaaMo
set_option linter.unusedSimpArgs false
set_option linter.unusedVariables false
namespace Sx
open Go Go.Proofs
set_option maxRecDepth 100000
set_option maxHeartbeats 4000000 in
theorem ofR_hc (S Bk P : Int) (hN : okN S Bk P = true) (L : Ld) (cap : Nat) (hn : L.length < 100000) (b : Int) : HC Try.prog 21 [refM S Bk P 0 L.length .no, i64 b] [] (rowH L cap) 1 (fun _ : Unit => True)
    (fun _ => ⟨.sq 1 0 0 2 (ofL L Bk P b).length .own, [(1, .row 0 (ofL L Bk P b).length (ofL L Bk P b).length 2 (ldr (ofL L Bk P b)) 54)], 2⟩) := by
  have hN' := okN_iff.1 hN
  refine hc_of_run Try.func21 rfl (fun B hB hpin => ?_)
  refine goR hB rfl rfl (by simp [conj]) ?_
  refine run_cond rfl (fun h => ?_) (fun h => ?_)
  · have he : ofL L Bk P b = [] := if_neg (by simp at h; omega)
    refine goR hB rfl rfl (by simp [conj]) ?_
    refine run_retC hpin () trivial [0, 2] rfl rfl (by simp [conj]) rfl ?_
    rw [he]
    simp [conj, less_rfl, ren_ldr]
  have hb : 0 ≤ b ∧ b < Bk := by simp at h; omega
  have hbP1 : 0 ≤ b * P := Int.mul_nonneg hb.1 (by omega)
  have hbP2 : b * P ≤ 4096 * 512 := Int.mul_le_mul (by omega) (by omega) (by omega) (by omega)
  have hbP3 : (b + 1) * P = b * P + P := by rw [Int.add_mul]; omega
  refine goR hB rfl rfl (by simp [conj, Fits_i64]; omega) ?_
  refine run_loop ?_
  refine run_inv (ι := Nat) hpin (fun k => (k : Int) ≤ P) (fun k => P.toNat - k)
    (fun k => [(6, i64 (b * P + (k : Int))), (5, .sq 2 0 0 2 (ofTo L P b k).length .own), (1, i64 b), (2, .ptr 1 0)]) (fun _ => [])
    (fun k => [(1, .cells (rfL S Bk P 0 L.length .no) 38), (2, .row 0 (ofTo L P b k).length (ofTo L P b k).length 2 (ldr (ofTo L P b k)) 54)]) 3 0 (by omega)
    [0, 1, 2] rfl rfl (by simp [conj, less_rfl, ren_ldr, ofTo]) ?_
  intro k hk ih
  have hlen := ofTo_len L P b k
  refine goR hB rfl rfl (by simp [conj, Fits_i64]; omega) ?_
  refine run_cond rfl (fun h1 => ?_) (fun h1 => ?_)
  · have hk1 : (k : Int) < P := by simp at h1; omega
    have ih := ih (k + 1) (by omega) (by omega)
    refine goR hB rfl rfl (by simp [conj]) ?_
    refine run_callC (secR_hc S Bk P L cap hn (b * P + (k : Int))) named hB [0] rfl rfl rfl rfl (by simp [conj]) (by simp [conj, less_rfl, ren_ldr]) ?_
    rintro ⟨⟩ _
    refine ⟨show 1 ≤ 1 by omega, _, _, _, rfl, rfl, rfl, ?_⟩
    refine goR hB rfl rfl (by simp [conj]) ?_
    refine run_cond rfl (fun hp => ?_) (fun hp => ?_)
    · have hp' : hasP L (b * P + (k : Int)) = true := hp
      rw [ofTo_succ, if_pos hp'] at ih
      refine goR hB rfl rfl ?_ ?_
      · clear ih
        simp [conj, Fits_i64]
        omega
      refine run_back ?_
      refine run_to hpin [0, 1, 4] rfl rfl ?_ ih
      clear ih
      simp [conj, less_rfl, ren_ldr, hp']
      refine ⟨by omega, fun a c ha hc => Less.of ?_⟩
      rw [app_ldr (ofTo L P b k) (scP L (b * P + (k : Int)), b * P + (k : Int)) _ _ rfl rfl a c ha hc]
    · have hp' : hasP L (b * P + (k : Int)) = false := by simpa using hp
      have e1 : ofTo L P b (k + 1) = ofTo L P b k := by rw [ofTo_succ, hp']; simp
      rw [e1] at ih
      refine goR hB rfl rfl (by simp [conj, Fits_i64]; omega) ?_
      refine run_back ?_
      refine run_to hpin [0, 1, 2] rfl rfl ?_ ih
      clear ih
      simp [conj, less_rfl, ren_ldr]
      try omega
  · clear ih
    have hk1 : k = P.toNat := by simp at h1; omega
    have he : ofL L Bk P b = ofTo L P b k := by rw [hk1]; exact if_pos hb
    refine goR hB rfl rfl (by simp [conj]) ?_
    refine run_retC hpin () trivial [0, 2] rfl rfl (by simp [conj]) rfl ?_
    rw [he]
    simp [conj, less_rfl, ren_ldr]
end Sx
