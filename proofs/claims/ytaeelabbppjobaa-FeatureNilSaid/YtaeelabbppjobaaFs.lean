/- FeatureRuns: its call gives true. Conditions: the values of the calls are uint32. -/
import Derived.Test.YtaeelabbppjobaaFp
set_option linter.unusedSimpArgs false
set_option linter.unusedVariables false
namespace Sx
open Go Go.Proofs
set_option maxRecDepth 100000
/-- A call of do, as a word for regions that draw their order. -/
def rcDo (q s : Int) (x : FSt) (a : AC) (sg : List Nat) : RC := ⟨12, [.ptr 0 0, refV q s x, actV a], objH q s x, [], 3, .tup [.ptr 0 0, refV q s (x.act q s a), .tt], objH q s (x.act q s a), 3, sg⟩
def rcCp (q s : Int) (x : FSt) (a : AC) (sg : List Nat) : RC := ⟨12, [.ptr 0 0, refV q s x, actV a], objH q s x, [], 3, .tup [.ptr 3 0, refV q s (x.act q s a), .tt], objN q s (x.act q s a) 3 4 5, 6, sg⟩
set_option maxHeartbeats 1000000 in
theorem runs_hc (q s : Int) (off n : Nat) (l : Nat → AC) (hl : ∀ i, i < n → (l i).ok) :
    HC Try.prog 5 [.agg [i64 q, i64 s], .sq 0 off 0 5 n .no] [] (actH off n l) 1 (fun _ : Unit => True) ttOut := by
  refine hc_of_run Try.func5 rfl (fun B hB hpin => ?_)
  refine goQ hB s3_ok rfl rfl (by simp [conj]) ?_
  by_cases hv : (1 ≤ q ∧ q ≤ 65535) ∧ 1 ≤ s ∧ s ≤ 32
  case neg =>
    refine run_callC (new_bad q s hv) named hB [] rfl rfl rfl rfl (by simp [conj]) (by simp [conj, less_rfl]) ?_
    rintro ⟨⟩ _
    refine ⟨show 0 ≤ 0 by omega, _, _, _, rfl, rfl, rfl, ?_⟩
    refine goQ hB s3_ok rfl rfl (by simp [conj]) ?_
    refine run_condT rfl (by simp; omega) ?_
    refine goQ hB s3_ok rfl rfl (by simp [conj, isPt25]) ?_
    exact run_retC hpin () trivial [0] rfl rfl (by simp [conj]) rfl (by simp [conj, ren_ak, less_rfl])
  obtain ⟨h, hs⟩ := hv
  refine run_callC (new_ok q s h hs) named hB [] rfl rfl rfl rfl (by simp [conj]) (by simp [conj, less_rfl]) ?_
  rintro ⟨⟩ _
  refine ⟨show 0 ≤ 3 by omega, _, _, _, rfl, rfl, rfl, ?_⟩
  refine goQ hB s3_ok rfl rfl (by simp [conj]) ?_
  refine run_condF rfl (by simp; omega) ?_
  refine goQ hB s3_ok rfl rfl (by simp [conj]) ?_
  refine run_cond rfl (fun g => ?_) (fun g => ?_)
  · refine goQ hB s3_ok rfl rfl (by simp [conj]) ?_
    exact run_retC hpin () trivial [0] rfl rfl (by simp [conj]) rfl (by simp [conj, ren_ak, less_rfl])
  have hn : n ≤ 40 := by simp at g; omega
  clear g
  refine goQ hB s3_ok rfl rfl (by simp [conj]) ?_
  refine run_callC (refnew_hc q s h) named hB [] rfl rfl rfl rfl (by simp [conj]) (by simp [conj, less_rfl]) ?_
  rintro ⟨⟩ _
  refine ⟨show 0 ≤ 0 by omega, _, _, _, rfl, rfl, rfl, ?_⟩
  refine goQ hB s3_ok rfl rfl (by simp [conj]) ?_
  refine run_loop ?_
  refine run_inv (ι := Nat × FSt) hpin (fun z => z.1 ≤ n ∧ HOk z.2) (fun z => n - z.1) (fun z => [(1, .sq 0 off 0 5 n .no), (5, .ptr 1 0), (7, .ptr 4 0), (8, i64 z.1)]) (fun _ => [])
    (fun z => objN q s z.2 1 2 3 ++ [(4, .cells (refL q s z.2.vc z.2) 35)]) 5 (0, fNew q) ⟨by omega, hok_new q⟩ [0, 2, 3, 4, 5] rfl rfl (by simp [conj, ren_ak, less_rfl]) ?_
  rintro ⟨i, x⟩ ⟨hi, hx⟩ ih
  refine goQ hB s3_ok rfl rfl (by simp [conj]) ?_
  refine run_cond rfl (fun g => ?_) (fun g => ?_)
  · have hin : i < n := by simp at g; omega
    refine goQ hB s3_ok rfl rfl (by simp [conj]) ?_
    refine run_draw0 mixed (fun t => ?_)
    have hfin := ih (i + 1, x.act q s (l i)) ⟨hin, hok_act hx q s (l i)⟩ (by show n - (i + 1) < n - i; omega)
    clear ih
    by_cases k0 : (l i).k = 0
    · skip
      refine run_drawC (M := modeQ s3) 3 15 rfl named hB s3_ok [(11, rcDo q s x (l i) [1, 2, 3])] ⟨⟨do_set q s h hs x hx (l i) (hl i hin) k0, rfl, Nat.le_refl _⟩, trivial⟩ rfl rfl rfl rfl rfl rfl (by simp [conj, ak, less_rfl, SO.Live]; omega) (fun t => ?_)
      refine run_drawE rfl ?_
      refine goQ hB s3_ok rfl rfl (by simp [conj]) ?_
      refine run_callC (agrees_hc q s h (x.act q s (l i))) named hB [1, 2, 3] rfl rfl rfl rfl (by simp [conj]) (by simp [conj, less_rfl]) ?_
      rintro ⟨⟩ _
      refine ⟨show 3 ≤ 3 by omega, _, _, _, rfl, rfl, rfl, ?_⟩
      refine goQ hB s3_ok rfl rfl (by simp [conj, Fits_i64]; omega) ?_
      refine run_back ?_
      refine run_to hpin [0, 1, 2, 3, 4] rfl rfl (by simp [conj, ren_ak, less_rfl]) hfin
    by_cases k1 : (l i).k = 1
    · skip
      refine run_drawC (M := modeQ s3) 3 15 rfl named hB s3_ok [(11, rcDo q s x (l i) [1, 2, 3])] ⟨⟨do_reset q s h x hx (l i) k1, rfl, Nat.le_refl _⟩, trivial⟩ rfl rfl rfl rfl rfl rfl (by simp [conj, ak, less_rfl, SO.Live]; omega) (fun t => ?_)
      refine run_drawE rfl ?_
      refine goQ hB s3_ok rfl rfl (by simp [conj]) ?_
      refine run_callC (agrees_hc q s h (x.act q s (l i))) named hB [1, 2, 3] rfl rfl rfl rfl (by simp [conj]) (by simp [conj, less_rfl]) ?_
      rintro ⟨⟩ _
      refine ⟨show 3 ≤ 3 by omega, _, _, _, rfl, rfl, rfl, ?_⟩
      refine goQ hB s3_ok rfl rfl (by simp [conj, Fits_i64]; omega) ?_
      refine run_back ?_
      refine run_to hpin [0, 1, 2, 3, 4] rfl rfl (by simp [conj, ren_ak, less_rfl]) hfin
    by_cases k2 : (l i).k = 2
    · skip
      refine run_drawC (M := modeQ s3) 3 15 rfl named hB s3_ok [(11, rcDo q s x (l i) [1, 2, 3])] ⟨⟨do_host q s x (l i) k2, rfl, Nat.le_refl _⟩, trivial⟩ rfl rfl rfl rfl rfl rfl (by simp [conj, ak, less_rfl, SO.Live]; omega) (fun t => ?_)
      refine run_drawE rfl ?_
      refine goQ hB s3_ok rfl rfl (by simp [conj]) ?_
      refine run_callC (agrees_hc q s h (x.act q s (l i))) named hB [1, 2, 3] rfl rfl rfl rfl (by simp [conj]) (by simp [conj, less_rfl]) ?_
      rintro ⟨⟩ _
      refine ⟨show 3 ≤ 3 by omega, _, _, _, rfl, rfl, rfl, ?_⟩
      refine goQ hB s3_ok rfl rfl (by simp [conj, Fits_i64]; omega) ?_
      refine run_back ?_
      refine run_to hpin [0, 1, 2, 3, 4] rfl rfl (by simp [conj, ren_ak, less_rfl]) hfin
    · skip
      refine run_drawC (M := modeQ s3) 3 15 rfl named hB s3_ok [(11, rcCp q s x (l i) [1, 2, 3])] ⟨⟨do_copy q s x (l i) k0 k1 k2, rfl, by show 3 ≤ 6; omega⟩, trivial⟩ rfl rfl rfl rfl rfl rfl (by simp [conj, ak, less_rfl, SO.Live]; omega) (fun t => ?_)
      refine run_drawE rfl ?_
      refine goQ hB s3_ok rfl rfl (by simp [conj]) ?_
      refine run_callC (agrees_hc q s h (x.act q s (l i))) named hB [11, 26, 41] rfl rfl rfl rfl (by simp [conj]) (by simp [conj, less_rfl]) ?_
      rintro ⟨⟩ _
      refine ⟨show 3 ≤ 3 by omega, _, _, _, rfl, rfl, rfl, ?_⟩
      refine goQ hB s3_ok rfl rfl (by simp [conj, Fits_i64]; omega) ?_
      refine run_back ?_
      refine run_to hpin [0, 11, 26, 41, 4] rfl rfl (by simp [conj, ren_ak, less_rfl]) hfin
  · clear ih
    refine goQ hB s3_ok rfl rfl (by simp [conj]) ?_
    exact run_retC hpin () trivial [0] rfl rfl (by simp [conj]) rfl (by simp [conj, ren_ak, less_rfl])
end Sx
