/- FeatureCopies: its call gives true. Conditions: the values of the calls are uint32. -/
import Derived.Test.YtaeelabbppjobaaFt
set_option linter.unusedSimpArgs false
set_option linter.unusedVariables false
namespace Sx
open Go Go.Proofs
set_option maxRecDepth 100000
/-- A run that several branches come to, each with its own z. -/
theorem run_shareA {ι : Type} {P : Program} {ro : Hp} {B : Base} {f : FuncId} {R : Ending → World → Prop} {N : Nat} {TD : List SI} (c1 : ι → Nat → List SI → Cfg) (I : ι → Prop) {Q : Prop} (main : (∀ z, I z → Run P ro B f R (c1 z N TD)) → Q) (proof : ∀ z, I z → Run P ro B f R (c1 z N TD)) : Q := main proof
def rcCopy (q s : Int) (x : FSt) (sg : List Nat) : RC := ⟨20, [.ptr 0 0], objH q s x, [], 3, .ptr 3 0, objC q s x, 6, sg⟩
abbrev acts3 (o0 n0 : Nat) (l0 : Nat → AC) (o1 n1 : Nat) (l1 : Nat → AC) (o2 n2 : Nat) (l2 : Nat → AC) : Hp := [(0, .row o0 n0 n0 5 (ak l0) anyTy), (1, .row o1 n1 n1 5 (ak l1) anyTy), (2, .row o2 n2 n2 5 (ak l2) anyTy)]
set_option maxHeartbeats 2000000 in
theorem copies_hc (q s : Int) (o0 n0 : Nat) (l0 : Nat → AC) (hl0 : ∀ i, i < n0 → (l0 i).ok) (o1 n1 : Nat) (l1 : Nat → AC) (hl1 : ∀ i, i < n1 → (l1 i).ok) (o2 n2 : Nat) (l2 : Nat → AC) (hl2 : ∀ i, i < n2 → (l2 i).ok) :
    HC Try.prog 6 [.agg [i64 q, i64 s], .sq 0 o0 0 5 n0 .no, .sq 1 o1 0 5 n1 .no, .sq 2 o2 0 5 n2 .no] [] (acts3 o0 n0 l0 o1 n1 l1 o2 n2 l2) 3 (fun _ : Unit => True) (fun _ => ⟨.tt, [], 3⟩) := by
  refine hc_of_run Try.func6 rfl (fun B hB hpin => ?_)
  refine goQ hB s3_ok rfl rfl (by simp [conj]) ?_
  by_cases hv : (1 ≤ q ∧ q ≤ 65535) ∧ 1 ≤ s ∧ s ≤ 32
  case neg =>
    refine run_callC (new_bad q s hv) named hB [] rfl rfl rfl rfl (by simp [conj]) (by simp [conj, less_rfl]) ?_
    rintro ⟨⟩ _
    refine ⟨show 0 ≤ 0 by omega, _, _, _, rfl, rfl, rfl, ?_⟩
    refine goQ hB s3_ok rfl rfl (by simp [conj]) ?_
    refine run_condT rfl (by simp) ?_
    refine goQ hB s3_ok rfl rfl (by simp [conj]) ?_
    exact run_retC hpin () trivial [0, 1, 2] rfl rfl (by simp [conj]) rfl (by simp [conj, ren_ak, less_rfl])
  obtain ⟨h, hs⟩ := hv
  refine run_callC (new_ok q s h hs) named hB [] rfl rfl rfl rfl (by simp [conj]) (by simp [conj, less_rfl]) ?_
  rintro ⟨⟩ _
  refine ⟨show 0 ≤ 3 by omega, _, _, _, rfl, rfl, rfl, ?_⟩
  refine goQ hB s3_ok rfl rfl (by simp [conj]) ?_
  refine run_cond rfl (fun g => ?_) (fun g => ?_)
  · refine goQ hB s3_ok rfl rfl (by simp [conj]) ?_
    exact run_retC hpin () trivial [0, 1, 2] rfl rfl (by simp [conj]) rfl (by simp [conj, ren_ak, less_rfl])
  have hn : n0 ≤ 40 ∧ n1 ≤ 40 ∧ n2 ≤ 40 := by simp at g; omega
  clear g
  refine goQ hB s3_ok rfl rfl (by simp [conj]) ?_
  refine run_callC (refnew_hc q s h) named hB [] rfl rfl rfl rfl (by simp [conj]) (by simp [conj, less_rfl]) ?_
  rintro ⟨⟩ _
  refine ⟨show 0 ≤ 0 by omega, _, _, _, rfl, rfl, rfl, ?_⟩
  refine goQ hB s3_ok rfl rfl (by simp [conj]) ?_
  refine run_loop ?_
  refine run_inv (ι := Nat × FSt) hpin (fun z => z.1 ≤ n0 ∧ HOk z.2) (fun z => n0 - z.1) (fun z => [(1, .sq 0 o0 0 5 n0 .no), (2, .sq 1 o1 0 5 n1 .no), (3, .sq 2 o2 0 5 n2 .no), (9, .ptr 3 0), (11, .ptr 6 0), (12, i64 z.1)]) (fun _ => [])
    (fun z => objN q s z.2 3 4 5 ++ [(6, .cells (refL q s z.2.vc z.2) 35)]) 7 (0, fNew q) ⟨by omega, hok_new q⟩ [0, 1, 2, 4, 5, 6, 7] rfl rfl (by simp [conj, ren_ak, less_rfl]) ?_
  rintro ⟨i, x⟩ ⟨hi, hx⟩ ih
  refine goQ hB s3_ok rfl rfl (by simp [conj]) ?_
  refine run_cond rfl (fun g => ?_) (fun g => ?_)
  · have hin : i < n0 := by simp at g; omega
    have hfin := ih (i + 1, x.act q s (l0 i)) ⟨hin, hok_act hx q s (l0 i)⟩ (by show n0 - (i + 1) < n0 - i; omega)
    clear ih
    refine goQ hB s3_ok rfl rfl (by simp [conj]) ?_
    refine run_draw0 mixed (fun t => ?_)
    by_cases k0 : (l0 i).k = 0
    · skip
      refine run_drawC (M := modeQ s3) 3 13 rfl named hB s3_ok [(13, rcDo q s x (l0 i) [3, 4, 5])] ⟨⟨do_set q s h hs x hx (l0 i) (hl0 i hin) k0, rfl, Nat.le_refl _⟩, trivial⟩ rfl rfl rfl rfl rfl rfl (by simp [conj, ak, less_rfl, SO.Live]; omega) (fun t => ?_)
      refine run_drawE rfl ?_
      refine goQ hB s3_ok rfl rfl (by simp [conj, Fits_i64]; omega) ?_
      refine run_back ?_
      refine run_to hpin [0, 1, 2, 3, 4, 5, 6] rfl rfl (by simp [conj, ren_ak, less_rfl]) hfin
    by_cases k1 : (l0 i).k = 1
    · skip
      refine run_drawC (M := modeQ s3) 3 13 rfl named hB s3_ok [(13, rcDo q s x (l0 i) [3, 4, 5])] ⟨⟨do_reset q s h x hx (l0 i) k1, rfl, Nat.le_refl _⟩, trivial⟩ rfl rfl rfl rfl rfl rfl (by simp [conj, ak, less_rfl, SO.Live]; omega) (fun t => ?_)
      refine run_drawE rfl ?_
      refine goQ hB s3_ok rfl rfl (by simp [conj, Fits_i64]; omega) ?_
      refine run_back ?_
      refine run_to hpin [0, 1, 2, 3, 4, 5, 6] rfl rfl (by simp [conj, ren_ak, less_rfl]) hfin
    by_cases k2 : (l0 i).k = 2
    · skip
      refine run_drawC (M := modeQ s3) 3 13 rfl named hB s3_ok [(13, rcDo q s x (l0 i) [3, 4, 5])] ⟨⟨do_host q s x (l0 i) k2, rfl, Nat.le_refl _⟩, trivial⟩ rfl rfl rfl rfl rfl rfl (by simp [conj, ak, less_rfl, SO.Live]; omega) (fun t => ?_)
      refine run_drawE rfl ?_
      refine goQ hB s3_ok rfl rfl (by simp [conj, Fits_i64]; omega) ?_
      refine run_back ?_
      refine run_to hpin [0, 1, 2, 3, 4, 5, 6] rfl rfl (by simp [conj, ren_ak, less_rfl]) hfin
    · skip
      refine run_drawC (M := modeQ s3) 3 13 rfl named hB s3_ok [(13, rcCp q s x (l0 i) [3, 4, 5])] ⟨⟨do_copy q s x (l0 i) k0 k1 k2, rfl, by show 3 ≤ 6; omega⟩, trivial⟩ rfl rfl rfl rfl rfl rfl (by simp [conj, ak, less_rfl, SO.Live]; omega) (fun t => ?_)
      refine run_drawE rfl ?_
      refine goQ hB s3_ok rfl rfl (by simp [conj, Fits_i64]; omega) ?_
      refine run_back ?_
      refine run_to hpin [0, 1, 2, 13, 26, 39, 6] rfl rfl (by simp [conj, ren_ak, less_rfl]) hfin
  · clear ih g
    refine goQ hB s3_ok rfl rfl (by simp [conj]) ?_
    refine run_draw0 mixed (fun t => ?_)
    refine run_drawC (M := modeQ s3) 3 6 rfl named hB s3_ok [(8, rcCopy q s x [3, 4, 5])] ⟨⟨copy_hc q s x, rfl, by show 3 ≤ 6; omega⟩, trivial⟩ rfl rfl rfl rfl rfl rfl (by simp [conj, less_rfl, SO.Live]) (fun t => ?_)
    refine run_drawE rfl ?_
    refine goQ hB s3_ok rfl rfl (by simp [conj, isPt25]) ?_
    refine run_split 63 rfl (fun h9 => absurd h9 (by simp)) (fun h9 => ?_)
    clear h9
    refine run_callC (agrees_hc q s h x) named hB [8, 14, 20] rfl rfl rfl rfl (by simp [conj]) (by simp [conj, less_rfl]) ?_
    rintro ⟨⟩ _
    refine ⟨show 3 ≤ 3 by omega, _, _, _, rfl, rfl, rfl, ?_⟩
    refine goQ hB s3_ok rfl rfl (by simp [conj]) ?_
    refine run_loop ?_
    refine run_inv (ι := Nat × FSt × FSt) hpin (fun z => HOk z.2.1 ∧ HOk z.2.2) (fun z => max n1 n2 - z.1) (fun z => [(2, .sq 1 o1 0 5 n1 .no), (3, .sq 2 o2 0 5 n2 .no), (9, .ptr 3 0), (11, .ptr 6 0), (13, .ptr 7 0), (14, .ptr 10 0), (15, i64 z.1)]) (fun _ => [])
      (fun z => objN q s z.2.1 3 4 5 ++ ((6, .cells (refL q s z.2.1.vc z.2.1) 35) :: (objN q s z.2.2 7 8 9 ++ [(10, .cells (refL q s z.2.2.vc z.2.2) 35)]))) 11 (0, x, x) ⟨hx, hx⟩ [0, 1, 2, 3, 4, 5, 6, 8, 14, 20, 10] rfl rfl (by simp [conj, ren_ak, less_rfl]) ?_
    clear hx
    rintro ⟨i, x, y⟩ ⟨hx, hy⟩ ih
    refine goQ hB s3_ok rfl rfl (by simp [conj]) ?_
    refine run_cond rfl (fun g => ?_) (fun g => ?_)
    · have him : i < max n1 n2 := by simp at g; omega
      refine goQ hB s3_ok rfl rfl (by simp [conj]) ?_
      apply run_shareA (fun (x' : FSt) N TD => ⟨⟨fid 6, N, [(2, .sq 1 o1 0 5 n1 .no), (3, .sq 2 o2 0 5 n2 .no), (9, .ptr 3 0), (11, .ptr 6 0), (13, .ptr 7 0), (14, .ptr 10 0), (15, i64 i), (96, .sb (decide ((i : Int) < n2)))], TD⟩, [],
        objN q s x' 3 4 5 ++ ((6, .cells (refL q s x'.vc x') 35) :: (objN q s y 7 8 9 ++ [(10, .cells (refL q s y.vc y) 35)])), 11⟩) HOk
      · intro join
        refine run_cond rfl (fun g1 => ?_) (fun g1 => ?_)
        · have hin : i < n1 := by simp at g1; omega
          have hx' := hok_act hx q s (l1 i)
          refine run_draw0 mixed (fun t => ?_)
          by_cases k0 : (l1 i).k = 0
          · skip
            refine run_drawC (M := modeQ s3) 3 13 rfl named hB s3_ok [(17, rcDo q s x (l1 i) [3, 4, 5])] ⟨⟨do_set q s h hs x hx (l1 i) (hl1 i hin) k0, rfl, Nat.le_refl _⟩, trivial⟩ rfl rfl rfl rfl rfl rfl (by simp [conj, ak, less_rfl, SO.Live]; omega) (fun t => ?_)
            refine run_drawE rfl ?_
            refine goQ hB s3_ok rfl rfl (by simp [conj]) ?_
            exact run_to hpin [0, 1, 2, 3, 4, 5, 6, 7, 8, 9, 10] rfl rfl (by simp [conj, ren_ak, less_rfl]) (join _ hx')
          by_cases k1 : (l1 i).k = 1
          · skip
            refine run_drawC (M := modeQ s3) 3 13 rfl named hB s3_ok [(17, rcDo q s x (l1 i) [3, 4, 5])] ⟨⟨do_reset q s h x hx (l1 i) k1, rfl, Nat.le_refl _⟩, trivial⟩ rfl rfl rfl rfl rfl rfl (by simp [conj, ak, less_rfl, SO.Live]; omega) (fun t => ?_)
            refine run_drawE rfl ?_
            refine goQ hB s3_ok rfl rfl (by simp [conj]) ?_
            exact run_to hpin [0, 1, 2, 3, 4, 5, 6, 7, 8, 9, 10] rfl rfl (by simp [conj, ren_ak, less_rfl]) (join _ hx')
          by_cases k2 : (l1 i).k = 2
          · skip
            refine run_drawC (M := modeQ s3) 3 13 rfl named hB s3_ok [(17, rcDo q s x (l1 i) [3, 4, 5])] ⟨⟨do_host q s x (l1 i) k2, rfl, Nat.le_refl _⟩, trivial⟩ rfl rfl rfl rfl rfl rfl (by simp [conj, ak, less_rfl, SO.Live]; omega) (fun t => ?_)
            refine run_drawE rfl ?_
            refine goQ hB s3_ok rfl rfl (by simp [conj]) ?_
            exact run_to hpin [0, 1, 2, 3, 4, 5, 6, 7, 8, 9, 10] rfl rfl (by simp [conj, ren_ak, less_rfl]) (join _ hx')
          · skip
            refine run_drawC (M := modeQ s3) 3 13 rfl named hB s3_ok [(17, rcCp q s x (l1 i) [3, 4, 5])] ⟨⟨do_copy q s x (l1 i) k0 k1 k2, rfl, by show 3 ≤ 6; omega⟩, trivial⟩ rfl rfl rfl rfl rfl rfl (by simp [conj, ak, less_rfl, SO.Live]; omega) (fun t => ?_)
            refine run_drawE rfl ?_
            refine goQ hB s3_ok rfl rfl (by simp [conj]) ?_
            exact run_to hpin [0, 1, 2, 17, 30, 43, 6, 7, 8, 9, 10] rfl rfl (by simp [conj, ren_ak, less_rfl]) (join _ hx')
        · refine goQ hB s3_ok rfl rfl (by simp [conj]) ?_
          exact run_to hpin [0, 1, 2, 3, 4, 5, 6, 7, 8, 9, 10] rfl rfl (by simp [conj, ren_ak, less_rfl]) (join x hx)
      · intro x' hx'
        refine run_cond rfl (fun g1 => ?_) (fun g1 => ?_)
        · have hin : i < n2 := by simp at g1; omega
          have hfin := ih (i + 1, x', y.act q s (l2 i)) ⟨hx', hok_act hy q s (l2 i)⟩ (by show max n1 n2 - (i + 1) < max n1 n2 - i; omega)
          clear ih
          refine run_draw0 mixed (fun t => ?_)
          by_cases k0 : (l2 i).k = 0
          · skip
            refine run_drawC (M := modeQ s3) 3 13 rfl named hB s3_ok [(17, rcDo q s y (l2 i) [7, 8, 9])] ⟨⟨do_set q s h hs y hy (l2 i) (hl2 i hin) k0, rfl, Nat.le_refl _⟩, trivial⟩ rfl rfl rfl rfl rfl rfl (by simp [conj, ak, less_rfl, SO.Live]; omega) (fun t => ?_)
            refine run_drawE rfl ?_
            refine goQ hB s3_ok rfl rfl (by simp [conj, Fits_i64]; omega) ?_
            refine run_back ?_
            exact run_to hpin [0, 1, 2, 3, 4, 5, 6, 7, 8, 9, 10] rfl rfl (by simp [conj, ren_ak, less_rfl]) hfin
          by_cases k1 : (l2 i).k = 1
          · skip
            refine run_drawC (M := modeQ s3) 3 13 rfl named hB s3_ok [(17, rcDo q s y (l2 i) [7, 8, 9])] ⟨⟨do_reset q s h y hy (l2 i) k1, rfl, Nat.le_refl _⟩, trivial⟩ rfl rfl rfl rfl rfl rfl (by simp [conj, ak, less_rfl, SO.Live]; omega) (fun t => ?_)
            refine run_drawE rfl ?_
            refine goQ hB s3_ok rfl rfl (by simp [conj, Fits_i64]; omega) ?_
            refine run_back ?_
            exact run_to hpin [0, 1, 2, 3, 4, 5, 6, 7, 8, 9, 10] rfl rfl (by simp [conj, ren_ak, less_rfl]) hfin
          by_cases k2 : (l2 i).k = 2
          · skip
            refine run_drawC (M := modeQ s3) 3 13 rfl named hB s3_ok [(17, rcDo q s y (l2 i) [7, 8, 9])] ⟨⟨do_host q s y (l2 i) k2, rfl, Nat.le_refl _⟩, trivial⟩ rfl rfl rfl rfl rfl rfl (by simp [conj, ak, less_rfl, SO.Live]; omega) (fun t => ?_)
            refine run_drawE rfl ?_
            refine goQ hB s3_ok rfl rfl (by simp [conj, Fits_i64]; omega) ?_
            refine run_back ?_
            exact run_to hpin [0, 1, 2, 3, 4, 5, 6, 7, 8, 9, 10] rfl rfl (by simp [conj, ren_ak, less_rfl]) hfin
          · skip
            refine run_drawC (M := modeQ s3) 3 13 rfl named hB s3_ok [(17, rcCp q s y (l2 i) [7, 8, 9])] ⟨⟨do_copy q s y (l2 i) k0 k1 k2, rfl, by show 3 ≤ 6; omega⟩, trivial⟩ rfl rfl rfl rfl rfl rfl (by simp [conj, ak, less_rfl, SO.Live]; omega) (fun t => ?_)
            refine run_drawE rfl ?_
            refine goQ hB s3_ok rfl rfl (by simp [conj, Fits_i64]; omega) ?_
            refine run_back ?_
            exact run_to hpin [0, 1, 2, 3, 4, 5, 6, 17, 30, 43, 10] rfl rfl (by simp [conj, ren_ak, less_rfl]) hfin
        · have hfin := ih (i + 1, x', y) ⟨hx', hy⟩ (by show max n1 n2 - (i + 1) < max n1 n2 - i; omega)
          clear ih
          refine goQ hB s3_ok rfl rfl (by simp [conj, Fits_i64]; omega) ?_
          refine run_back ?_
          exact run_to hpin [0, 1, 2, 3, 4, 5, 6, 7, 8, 9, 10] rfl rfl (by simp [conj, ren_ak, less_rfl]) hfin
    · clear ih
      refine goQ hB s3_ok rfl rfl (by simp [conj]) ?_
      refine run_callC (agrees_hc q s h x) named hB [3, 4, 5] rfl rfl rfl rfl (by simp [conj]) (by simp [conj, less_rfl]) ?_
      rintro ⟨⟩ _
      refine ⟨show 3 ≤ 3 by omega, _, _, _, rfl, rfl, rfl, ?_⟩
      refine goQ hB s3_ok rfl rfl (by simp [conj]) ?_
      refine run_callC (agrees_hc q s h y) named hB [7, 8, 9] rfl rfl rfl rfl (by simp [conj]) (by simp [conj, less_rfl]) ?_
      rintro ⟨⟩ _
      refine ⟨show 3 ≤ 3 by omega, _, _, _, rfl, rfl, rfl, ?_⟩
      refine goQ hB s3_ok rfl rfl (by simp [conj]) ?_
      exact run_retC hpin () trivial [0, 1, 2] rfl rfl (by simp [conj]) rfl (by simp [conj, ren_ak, less_rfl])
end Sx
