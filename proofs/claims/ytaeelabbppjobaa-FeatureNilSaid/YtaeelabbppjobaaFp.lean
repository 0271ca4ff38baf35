/- FeatureGets: its call gives true. Conditions: the values of the calls are uint32. -/
import Derived.Test.YtaeelabbppjobaaFo
set_option linter.unusedSimpArgs false
set_option linter.unusedVariables false
namespace Sx
open Go Go.Proofs
set_option maxRecDepth 100000
/-- A slice of calls. -/
def ak (l : Nat → AC) : Nat → Nat → SV := fun i k =>
  match k with
  | 0 => i64 (l i).k
  | 1 => u8 (l i).id
  | 2 => u32 (l i).v
  | 3 => .sb (l i).sv
  | 4 => u64 (l i).h
  | _ => .und
abbrev actH (off n : Nat) (l : Nat → AC) : Hp := [(0, .row off n n 5 (ak l) anyTy)]
abbrev ttOut : Unit → Out := fun _ => ⟨.tt, [], 1⟩
theorem ren_ak {nx : Nat} {sg : List Nat} {l : Nat → AC} (i k : Nat) : ren nx sg (ak l i k) = ak l i k := by
  unfold ak
  split <;> rfl
theorem gets_hc (q s : Int) (off n : Nat) (l : Nat → AC) (hl : ∀ i, i < n → (l i).ok) (id sel : Int) :
    HC Try.prog 3 [.agg [i64 q, i64 s], .sq 0 off 0 5 n .no, u8 id, i64 sel] [] (actH off n l) 1 (fun _ : Unit => True) ttOut := by
  refine hc_of_run Try.func3 rfl (fun B hB hpin => ?_)
  refine goQ hB s3_ok rfl rfl (by simp [conj]) ?_
  by_cases hv : (1 ≤ q ∧ q ≤ 65535) ∧ 1 ≤ s ∧ s ≤ 32
  case neg =>
    refine run_callC (new_bad q s hv) named hB [] rfl rfl rfl rfl (by simp [conj]) (by simp [conj, less_rfl]) ?_
    rintro ⟨⟩ _
    refine ⟨show 0 ≤ 0 by omega, _, _, _, rfl, rfl, rfl, ?_⟩
    refine goQ hB s3_ok rfl rfl (by simp [conj]) ?_
    refine run_condT rfl (by simp) ?_
    refine goQ hB s3_ok rfl rfl (by simp [conj]) ?_
    exact run_retC hpin () trivial [0] rfl rfl (by simp [conj]) rfl (by simp [conj, ren_ak, less_rfl])
  obtain ⟨h, hs⟩ := hv
  refine run_callC (new_ok q s h hs) named hB [] rfl rfl rfl rfl (by simp [conj]) (by simp [conj, less_rfl]) ?_
  rintro ⟨⟩ _
  refine ⟨show 0 ≤ 3 by omega, _, _, _, rfl, rfl, rfl, ?_⟩
  refine goQ hB s3_ok rfl rfl (by simp [conj]) ?_
  refine run_cond rfl (fun g => ?_) (fun g => ?_)
  · refine goQ hB s3_ok rfl rfl (by simp [conj]) ?_
    exact run_retC hpin () trivial [0] rfl rfl (by simp [conj]) rfl (by simp [conj, ren_ak, less_rfl])
  have hn : n ≤ 40 := by simp at g; omega
  clear g
  refine goQ hB s3_ok rfl rfl (by simp [conj]) ?_
  refine run_callC (refnew_hc q s h) named hB [] rfl rfl rfl rfl (by simp [conj]) (by simp [conj, less_rfl]) ?_
  rintro ⟨⟩ _
  refine ⟨show 0 ≤ 0 by omega, _, _, _, rfl, rfl, rfl, ?_⟩
  refine goQ hB s3_ok rfl rfl (by simp [conj]) ?_
  refine run_loop ?_
  refine run_inv (ι := Nat × FSt) hpin (fun z => z.1 ≤ n ∧ HOk z.2) (fun z => n - z.1) (fun z => [(1, .sq 0 off 0 5 n .no), (2, u8 id), (3, i64 sel), (9, .ptr 1 0), (11, .ptr 4 0), (12, i64 z.1)]) (fun _ => [])
    (fun z => objN q s z.2 1 2 3 ++ [(4, .cells (refL q s z.2.vc z.2) 35)]) 5 (0, fNew q) ⟨by omega, hok_new q⟩ [0, 2, 3, 4, 5] rfl rfl (by simp [conj, ren_ak, less_rfl]) ?_
  rintro ⟨i, x⟩ ⟨hi, hx⟩ ih
  refine goQ hB s3_ok rfl rfl (by simp [conj]) ?_
  refine run_cond rfl (fun g => ?_) (fun g => ?_)
  · have hin : i < n := by simp at g; omega
    refine goQ hB s3_ok rfl rfl (by simp [conj]) ?_
    refine run_draw0 mixed (fun t => ?_)
    refine run_draw (M := modeQ s3) 6 named hB s3_ok rfl rfl rfl rfl rfl (by simp [conj]; omega) (fun t => ?_)
    refine run_draw1 rfl rfl rfl ?_
    have hfin := ih (i + 1, x.act q s (l i)) ⟨hin, hok_act hx q s (l i)⟩ (by show n - (i + 1) < n - i; omega)
    clear ih
    by_cases k0 : (l i).k = 0
    · skip
      refine run_callC (do_set q s h hs x hx (l i) (hl i hin) k0) named hB [1, 2, 3] rfl rfl rfl rfl (by simp [conj]) (by simp [conj, ak, less_rfl]) ?_
      rintro ⟨⟩ _
      refine ⟨show 3 ≤ 3 by omega, _, _, _, rfl, rfl, rfl, ?_⟩
      refine run_draw (M := modeQ s3) 6 named hB s3_ok rfl rfl rfl rfl rfl (by simp [conj]) (fun t => ?_)
      refine run_drawE rfl ?_
      refine goQ hB s3_ok rfl rfl (by simp [conj, Fits_i64]; omega) ?_
      refine run_back ?_
      refine run_to hpin [0, 1, 2, 3, 4] rfl rfl (by simp [conj, ren_ak, less_rfl]) hfin
    by_cases k1 : (l i).k = 1
    · skip
      refine run_callC (do_reset q s h x hx (l i) k1) named hB [1, 2, 3] rfl rfl rfl rfl (by simp [conj]) (by simp [conj, ak, less_rfl]) ?_
      rintro ⟨⟩ _
      refine ⟨show 3 ≤ 3 by omega, _, _, _, rfl, rfl, rfl, ?_⟩
      refine run_draw (M := modeQ s3) 6 named hB s3_ok rfl rfl rfl rfl rfl (by simp [conj]) (fun t => ?_)
      refine run_drawE rfl ?_
      refine goQ hB s3_ok rfl rfl (by simp [conj, Fits_i64]; omega) ?_
      refine run_back ?_
      refine run_to hpin [0, 1, 2, 3, 4] rfl rfl (by simp [conj, ren_ak, less_rfl]) hfin
    by_cases k2 : (l i).k = 2
    · skip
      refine run_callC (do_host q s x (l i) k2) named hB [1, 2, 3] rfl rfl rfl rfl (by simp [conj]) (by simp [conj, ak, less_rfl]) ?_
      rintro ⟨⟩ _
      refine ⟨show 3 ≤ 3 by omega, _, _, _, rfl, rfl, rfl, ?_⟩
      refine run_draw (M := modeQ s3) 6 named hB s3_ok rfl rfl rfl rfl rfl (by simp [conj]) (fun t => ?_)
      refine run_drawE rfl ?_
      refine goQ hB s3_ok rfl rfl (by simp [conj, Fits_i64]; omega) ?_
      refine run_back ?_
      refine run_to hpin [0, 1, 2, 3, 4] rfl rfl (by simp [conj, ren_ak, less_rfl]) hfin
    · skip
      refine run_callC (do_copy q s x (l i) k0 k1 k2) named hB [1, 2, 3] rfl rfl rfl rfl (by simp [conj]) (by simp [conj, ak, less_rfl]) ?_
      rintro ⟨⟩ _
      refine ⟨show 3 ≤ 6 by omega, _, _, _, rfl, rfl, rfl, ?_⟩
      refine run_draw (M := modeQ s3) 6 named hB s3_ok rfl rfl rfl rfl rfl (by simp [conj]) (fun t => ?_)
      refine run_drawE rfl ?_
      refine goQ hB s3_ok rfl rfl (by simp [conj, Fits_i64]; omega) ?_
      refine run_back ?_
      refine run_to hpin [0, 11, 12, 13, 4] rfl rfl (by simp [conj, ren_ak, less_rfl]) hfin
  · clear ih
    refine goQ hB s3_ok rfl rfl (by simp [conj]) ?_
    refine run_callC (get_hc q s h x id sel) named hB [1, 2, 3] rfl rfl rfl rfl (by simp [conj]) (by simp [conj, less_rfl]) ?_
    rintro ⟨⟩ _
    refine ⟨show 3 ≤ 3 by omega, _, _, _, rfl, rfl, rfl, ?_⟩
    refine goQ hB s3_ok rfl rfl (by simp [conj]) ?_
    refine run_callC (refget_hc q s h x id sel) named hB [] rfl rfl rfl rfl (by simp [conj]) (by simp [conj, less_rfl]) ?_
    rintro ⟨⟩ _
    refine ⟨show 0 ≤ 0 by omega, _, _, _, rfl, rfl, rfl, ?_⟩
    have hb := get_bounds q x id sel
    refine goQ hB s3_ok rfl rfl (by simp [conj, hb]) ?_
    exact run_retC hpin () trivial [0] rfl rfl (by simp [conj]) rfl (by simp [conj, ren_ak, less_rfl, codeOf])
end Sx
