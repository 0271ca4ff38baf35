/- FeatureLists: its call gives true. Conditions: the values of the calls are uint32. -/
import Derived.Test.YtaeelabbppjobaaFaa
set_option linter.unusedSimpArgs false
set_option linter.unusedVariables false
namespace Sx
open Go Go.Proofs
set_option maxRecDepth 100000
set_option maxHeartbeats 8000000 in
theorem lists_hc (q s : Int) (off n : Nat) (l : Nat → AC) (hl : ∀ i, i < n → (l i).ok) (many : Int) :
    HC Try.prog 7 [.agg [i64 q, i64 s], .sq 0 off 0 5 n .no, i64 many] [] (actH off n l) 1 (fun _ : Unit => True) ttOut := by
  refine hc_of_run Try.func7 rfl (fun B hB hpin => ?_)
  refine goQ hB s3_ok rfl rfl (by simp [conj]) ?_
  by_cases hv : (1 ≤ q ∧ q ≤ 65535) ∧ 1 ≤ s ∧ s ≤ 32
  case neg =>
    refine run_callC (new_bad q s hv) named hB [] rfl rfl rfl rfl (by simp [conj]) (by simp [conj, less_rfl]) ?_
    rintro ⟨⟩ _
    refine ⟨show 0 ≤ 0 by omega, _, _, _, rfl, rfl, rfl, ?_⟩
    refine goQ hB s3_ok rfl rfl (by simp [conj]) ?_
    refine run_condT rfl (by simp) ?_
    refine goQ hB s3_ok rfl rfl (by simp [conj]) ?_
    exact run_retC hpin () trivial [0] rfl rfl (by simp [conj]) rfl (by simp [conj, ren_ak, less_rfl])
  obtain ⟨h, hs⟩ := hv
  refine run_callC (new_ok q s h hs) named hB [] rfl rfl rfl rfl (by simp [conj]) (by simp [conj, less_rfl]) ?_
  rintro ⟨⟩ _
  refine ⟨show 0 ≤ 3 by omega, _, _, _, rfl, rfl, rfl, ?_⟩
  refine goQ hB s3_ok rfl rfl (by simp [conj]) ?_
  refine run_cond rfl (fun g => ?_) (fun g => ?_)
  · refine goQ hB s3_ok rfl rfl (by simp [conj]) ?_
    exact run_retC hpin () trivial [0] rfl rfl (by simp [conj]) rfl (by simp [conj, ren_ak, less_rfl])
  have hn : n ≤ 40 := by simp at g; omega
  clear g
  refine goQ hB s3_ok rfl rfl (by simp [conj]) ?_
  refine run_callC (refnew_hc q s h) named hB [] rfl rfl rfl rfl (by simp [conj]) (by simp [conj, less_rfl]) ?_
  rintro ⟨⟩ _
  refine ⟨show 0 ≤ 0 by omega, _, _, _, rfl, rfl, rfl, ?_⟩
  refine goQ hB s3_ok rfl rfl (by simp [conj]) ?_
  refine run_loop ?_
  refine run_inv (ι := Nat × FSt) hpin (fun z => z.1 ≤ n ∧ HOk z.2) (fun z => n - z.1) (fun z => [(1, .sq 0 off 0 5 n .no), (5, .ptr 5 0), (6, .ptr 6 0), (7, .ptr 1 0), (9, .ptr 4 0), (10, i64 z.1)]) (fun _ => [])
    (fun z => objN q s z.2 1 2 3 ++ [(4, .cells (refL q s z.2.vc z.2) 35), (5, .cells [i64 many] 3), (6, .cells [.ff] 4)]) 7 (0, fNew q) ⟨by omega, hok_new q⟩ [0, 4, 5, 6, 7, 2, 3] rfl rfl (by simp [conj, ren_ak, less_rfl]) ?_
  rintro ⟨i, x⟩ ⟨hi, hx⟩ ih
  refine goQ hB s3_ok rfl rfl (by simp [conj]) ?_
  refine run_cond rfl (fun g => ?_) (fun g => ?_)
  · have hin : i < n := by simp at g; omega
    have hfin := ih (i + 1, x.act q s (l i)) ⟨hin, hok_act hx q s (l i)⟩ (by show n - (i + 1) < n - i; omega)
    clear ih
    refine goQ hB s3_ok rfl rfl (by simp [conj]) ?_
    refine run_draw0 mixed (fun t => ?_)
    by_cases k0 : (l i).k = 0
    · skip
      refine run_drawC (M := modeQ s3) 3 13 rfl named hB s3_ok [(13, rcDo q s x (l i) [1, 2, 3])] ⟨⟨do_set q s h hs x hx (l i) (hl i hin) k0, rfl, Nat.le_refl _⟩, trivial⟩ rfl rfl rfl rfl rfl rfl (by simp [conj, ak, less_rfl, SO.Live]; omega) (fun t => ?_)
      refine run_drawE rfl ?_
      refine goQ hB s3_ok rfl rfl (by simp [conj, Fits_i64]; omega) ?_
      refine run_back ?_
      refine run_to hpin [0, 1, 2, 3, 4, 5, 6] rfl rfl (by simp [conj, ren_ak, less_rfl]) hfin
    by_cases k1 : (l i).k = 1
    · skip
      refine run_drawC (M := modeQ s3) 3 13 rfl named hB s3_ok [(13, rcDo q s x (l i) [1, 2, 3])] ⟨⟨do_reset q s h x hx (l i) k1, rfl, Nat.le_refl _⟩, trivial⟩ rfl rfl rfl rfl rfl rfl (by simp [conj, ak, less_rfl, SO.Live]; omega) (fun t => ?_)
      refine run_drawE rfl ?_
      refine goQ hB s3_ok rfl rfl (by simp [conj, Fits_i64]; omega) ?_
      refine run_back ?_
      refine run_to hpin [0, 1, 2, 3, 4, 5, 6] rfl rfl (by simp [conj, ren_ak, less_rfl]) hfin
    by_cases k2 : (l i).k = 2
    · skip
      refine run_drawC (M := modeQ s3) 3 13 rfl named hB s3_ok [(13, rcDo q s x (l i) [1, 2, 3])] ⟨⟨do_host q s x (l i) k2, rfl, Nat.le_refl _⟩, trivial⟩ rfl rfl rfl rfl rfl rfl (by simp [conj, ak, less_rfl, SO.Live]; omega) (fun t => ?_)
      refine run_drawE rfl ?_
      refine goQ hB s3_ok rfl rfl (by simp [conj, Fits_i64]; omega) ?_
      refine run_back ?_
      refine run_to hpin [0, 1, 2, 3, 4, 5, 6] rfl rfl (by simp [conj, ren_ak, less_rfl]) hfin
    · skip
      refine run_drawC (M := modeQ s3) 3 13 rfl named hB s3_ok [(13, rcCp q s x (l i) [1, 2, 3])] ⟨⟨do_copy q s x (l i) k0 k1 k2, rfl, by show 3 ≤ 6; omega⟩, trivial⟩ rfl rfl rfl rfl rfl rfl (by simp [conj, ak, less_rfl, SO.Live]; omega) (fun t => ?_)
      refine run_drawE rfl ?_
      refine goQ hB s3_ok rfl rfl (by simp [conj, Fits_i64]; omega) ?_
      refine run_back ?_
      refine run_to hpin [0, 13, 26, 39, 4, 5, 6] rfl rfl (by simp [conj, ren_ak, less_rfl]) hfin
  · clear ih g
    have hx : HOk x := hx
    refine goT hB s5_ok rfl rfl (by simp [conj]) ?_
    refine run_callC (sup_hc q s x) named hB [1, 2, 3] rfl rfl rfl rfl (by simp [conj]) (by simp [conj, less_rfl]) ?_
    rintro ⟨⟩ _
    refine ⟨show 3 ≤ 5 by omega, _, _, _, rfl, rfl, rfl, ?_⟩
    refine goT hB s5_ok rfl rfl (by simp [conj, isFn59]) ?_
    refine run_condF rfl rfl ?_
    refine goT hB s5_ok rfl rfl (by simp [conj]) ?_
    have hx1 := hok_set hx q s 6 0 true
    have hx2 := hok_set hx1 q s 131 1 true
    refine run_callC (set_hc q s h hs x hx 6 0 (by decide) true) named hB [1, 2, 3] rfl rfl rfl rfl (by simp [conj]) (by simp [conj, less_rfl]) ?_
    rintro ⟨⟩ _
    refine ⟨show 3 ≤ 3 by omega, _, _, _, rfl, rfl, rfl, ?_⟩
    refine goT hB s5_ok rfl rfl (by simp [conj]) ?_
    refine run_callC (set_hc q s h hs _ hx1 131 1 (by decide) true) named hB [1, 2, 3] rfl rfl rfl rfl (by simp [conj]) (by simp [conj, less_rfl]) ?_
    rintro ⟨⟩ _
    refine ⟨show 3 ≤ 3 by omega, _, _, _, rfl, rfl, rfl, ?_⟩
    refine goT hB s5_ok rfl rfl (by simp [conj]) ?_
    refine run_callC (reset_hc q s h isId _ (fun _ h => h) hx2) named hB [1, 2, 3] rfl rfl rfl rfl (by simp [conj]) (by simp [conj, less_rfl]) ?_
    rintro ⟨⟩ _
    refine ⟨show 3 ≤ 3 by omega, _, _, _, rfl, rfl, rfl, ?_⟩
    refine goT hB s5_ok rfl rfl (by simp [conj]) ?_
    refine run_loop ?_
    refine run_inv (ι := Unit) hpin (fun _ => True) (fun _ => 0)
      (fun _ => [(5, .ptr 2 0), (6, .ptr 3 0), (9, .ptr 1 0), (11, .clo (.func 38) [] [.ptr 4 0]), (12, .ptr 6 0), (13, .ptr 7 0)]) (fun _ => [])
      (fun _ => [(1, .cells (refL q s x.vc x) 35), (2, .cells [i64 many] 3), (3, .cells [.ff] 4), (4, .cells [.mp 5] 64), (5, .map .u8 isId (.ints .u32 x.vc)), (6, .cells idsL 61), (7, .cells [i64 0] 3)]) 8 ()
      trivial [0, 4, 5, 6, 7, 8, 10, 11] rfl rfl (by simp [conj, ren_ak, less_rfl]) ?_
    rintro _ _ _
    clear hx
    refine goT hB s5_ok rfl rfl (by simp [conj]) ?_
    refine run_condT rfl (by simp) ?_
    refine goT hB s5_ok rfl rfl (by simp [conj]) ?_
    refine run_range named hB rfl rfl (by simp [conj]) rfl rfl rfl rfl ?_
    intro D l'
    have hB1 : (B.pin2 9 D l').ok := Base.pin2_ok hB
    have hpin1 : PinTo (B.pin2 9 D l') 11 := hpin.pin2 (by omega)
    apply run_share (B := B.pin2 9 D l') (fun N TD => ⟨⟨⟨7, none, [D]⟩, N, [(5, .ptr 2 0), (6, .ptr 3 0), (9, .ptr 1 0), (11, .clo (.func 38) [] [.ptr 4 0]), (12, .ptr 6 0), (13, .ptr 11 0)], TD⟩, [],
      [(1, .cells (refL q s x.vc x) 35), (2, .cells [i64 many] 3), (3, .cells [.ff] 4), (4, .cells [.mp 5] 64), (5, .map .u8 isId (.ints .u32 x.vc)), (6, .cells idsL 61), (9, .obj (.deferred (some []))), (11, .cells [i64 1] 3)], 12⟩)
    · intro turn1
      refine goT hB1 s5_ok rfl rfl (by simp [conj]) ?_
      refine run_callC (sorted_hc x.vc) named hB1 [11, 5] rfl rfl rfl rfl (by simp [conj]) (by simp [conj, less_rfl]) ?_
      rintro ⟨⟩ _
      refine ⟨show 2 ≤ 3 by omega, _, _, _, rfl, rfl, rfl, ?_⟩
      refine goT hB1 s5_ok rfl rfl (by simp [conj]) ?_
      refine run_loop ?_
      refine run_invK (ι := Nat) hpin1 (fun j => j ≤ 12 ∧ (j = 0 ∨ (j : Int) < many)) (fun j => 12 - j)
        (fun j => [(0, .clo (.yield l') [] []), (1, .ptr 4 0), (7, .sq 11 0 0 1 12 .own), (8, i64 12), (9, i64 j)])
        (fun _ => [[(5, .ptr 2 0), (6, .ptr 3 0), (9, .ptr 1 0), (11, .clo (.func 38) [] [.ptr 4 0]), (12, .ptr 6 0), (13, .ptr 7 0), (14, .ptr 8 0)]]) [9, 10]
        (fun j => [(1, .cells (refL q s x.vc x) 35), (2, .cells [i64 many] 3), (3, .cells [.ff] 4), (4, .cells [.mp 5] 64), (5, .map .u8 isId (.ints .u32 x.vc)), (6, .cells idsL 61), (7, .cells [i64 0] 3), (8, .cells [i64 j] 3), (11, .row 0 12 12 1 (nr .u8 idAt) 5)]) 12 0
        ⟨Nat.zero_le _, .inl rfl⟩ [0, 1, 2, 3, 4, 5, 6, 7, 8, 9, 10, 12] rfl rfl (by clear turn1; simp [conj, less_rfl, ren_ak, ren_nr, renR_nr]) ?_
      rintro j ⟨hj1, hj2⟩ ih2
      have hj' : j = 12 ∨ j = 0 ∨ j = 1 ∨ j = 2 ∨ j = 3 ∨ j = 4 ∨ j = 5 ∨ j = 6 ∨ j = 7 ∨ j = 8 ∨ j = 9 ∨ j = 10 ∨ j = 11 := by omega
      rcases hj' with e | hj'
      · subst e
        clear ih2
        refine goT hB1 s5_ok rfl rfl (by clear turn1; simp [conj]) ?_
        refine run_condF rfl (by decide) ?_
        refine goT hB1 s5_ok rfl rfl (by clear turn1; simp [conj]) ?_
        refine run_inR [] (.inl rfl) trivial rfl rfl (by clear turn1; simp [conj]) ?_
        refine run_endR 10 rfl rfl (by decide) rfl ?_
        have hE : min (12 : Int) (max 1 many) = 12 := by
          have := hj2
          omega
        refine goT hB1 s5_ok rfl rfl (by clear turn1; simp [conj, hE]) ?_
        refine run_condF rfl (by clear turn1; simp [hE]) ?_
        refine goT hB1 s5_ok rfl rfl (by clear turn1; simp [conj, Fits_i64]) ?_
        refine run_back ?_
        exact run_to hpin1 [0, 1, 2, 3, 4, 5, 6, 7, 8, 9, 10, 12] rfl rfl (by clear turn1; simp [conj, less_rfl, ren_ak, ren_nr, renR_nr]) turn1
      have ih2 := fun hh => ih2 (j + 1) ⟨by omega, .inr hh⟩ (by omega)
      have hEj : many ≤ (j : Int) + 1 → min (12 : Int) (max 1 many) = (j : Int) + 1 := by intro hm; omega
      rcases hj' with e | e | e | e | e | e | e | e | e | e | e | e
      all_goals
        subst e
        refine goT hB1 s5_ok rfl rfl (by clear ih2 turn1; simp [conj]) ?_
        refine run_condT rfl (by decide) ?_
        refine goT hB1 s5_ok rfl rfl (by clear ih2 turn1; simp [conj]) ?_
        refine run_yield 10 rfl rfl (by clear ih2 turn1; simp [conj]) rfl rfl rfl ?_
        refine goT hB1 s5_ok rfl rfl (by clear ih2 turn1; simp [conj]) ?_
        refine run_begin 10 rfl rfl rfl rfl ?_
        refine goT hB1 s5_ok rfl rfl (by clear ih2 turn1; simp [conj]) ?_
        refine run_condF rfl (by clear ih2 turn1; simp [nr, idAt, isId, idxOf]) ?_
        refine goT hB1 s5_ok rfl rfl (by clear ih2 turn1; simp [conj, Fits_i64]) ?_
        refine run_cond rfl (fun hq => ?_) (fun hq => ?_)
        · simp at hq
          clear ih2
          refine run_round 10 (.exit _ _ rfl) rfl rfl rfl rfl ?_
          have hE := hEj (by simpa using hq)
          simp at hE
          refine goT hB1 s5_ok rfl rfl (by clear turn1; simp [conj]) ?_
          refine run_inR [] (.inr ⟨_, rfl⟩) trivial rfl rfl (by clear turn1; simp [conj]) ?_
          refine run_endR 10 rfl rfl (by decide) rfl ?_
          refine goT hB1 s5_ok rfl rfl (by clear turn1; simp [conj, hE]) ?_
          refine run_condF rfl (by clear turn1; simp [hE]) ?_
          refine goT hB1 s5_ok rfl rfl (by clear turn1; simp [conj, Fits_i64]) ?_
          refine run_back ?_
          exact run_to hpin1 [0, 1, 2, 3, 4, 5, 6, 7, 8, 9, 10, 12] rfl rfl (by clear turn1; simp [conj, less_rfl, ren_ak, ren_nr, renR_nr]) turn1
        · simp at hq
          refine goT hB1 s5_ok rfl rfl (by clear ih2 turn1; simp [conj]) ?_
          refine run_round 10 .off rfl rfl rfl rfl ?_
          refine goT hB1 s5_ok rfl rfl (by clear ih2 turn1; simp [conj, Fits_i64]) ?_
          refine run_back ?_
          exact run_to hpin1 [0, 1, 2, 3, 4, 5, 6, 7, 8, 9, 10, 11] rfl rfl (by clear ih2 turn1; simp [conj, less_rfl, stAfter, ren_ak, ren_nr, renR_nr]) (ih2 (by simp; omega))
    refine goT hB1 s5_ok rfl rfl (by simp [conj]) ?_
    refine run_condT rfl (by simp) ?_
    refine goT hB1 s5_ok rfl rfl (by simp [conj]) ?_
    refine run_range named hB1 rfl rfl (by simp [conj]) rfl rfl rfl rfl ?_
    intro D2 l2
    have hB2 : ((B.pin2 9 D l').pin2 13 D2 l2).ok := Base.pin2_ok hB1
    have hpin2 : PinTo ((B.pin2 9 D l').pin2 13 D2 l2) 15 := hpin1.pin2 (by omega)
    refine goT hB2 s5_ok rfl rfl (by simp [conj]) ?_
    refine run_callC (sorted_hc x.vc) named hB2 [15, 5] rfl rfl rfl rfl (by simp [conj]) (by simp [conj, less_rfl]) ?_
    rintro ⟨⟩ _
    refine ⟨show 2 ≤ 3 by omega, _, _, _, rfl, rfl, rfl, ?_⟩
    refine goT hB2 s5_ok rfl rfl (by simp [conj]) ?_
    refine run_loop ?_
    refine run_invK (ι := Nat) hpin2 (fun j => j ≤ 12) (fun j => 12 - j)
      (fun j => [(0, .clo (.yield l2) [] []), (1, .ptr 4 0), (7, .sq 15 0 0 1 12 .own), (8, i64 12), (9, i64 j)])
      (fun _ => [[(5, .ptr 2 0), (6, .ptr 3 0), (9, .ptr 1 0), (11, .clo (.func 38) [] [.ptr 4 0]), (12, .ptr 6 0), (13, .ptr 11 0), (14, .ptr 12 0)]]) [13, 14]
      (fun j => [(1, .cells (refL q s x.vc x) 35), (2, .cells [i64 many] 3), (3, .cells [.ff] 4), (4, .cells [.mp 5] 64), (5, .map .u8 isId (.ints .u32 x.vc)), (6, .cells idsL 61), (9, .obj (.deferred (some []))), (11, .cells [i64 1] 3), (12, .cells [i64 j] 3), (15, .row 0 12 12 1 (nr .u8 idAt) 5)]) 16 0
      (Nat.zero_le _) [0, 1, 2, 3, 4, 5, 6, 7, 8, 9, 10, 11, 12, 13, 14, 16] rfl rfl (by simp [conj, less_rfl, ren_ak, ren_nr, renR_nr]) ?_
    intro j hj1 ih2
    have hj' : j = 12 ∨ j = 0 ∨ j = 1 ∨ j = 2 ∨ j = 3 ∨ j = 4 ∨ j = 5 ∨ j = 6 ∨ j = 7 ∨ j = 8 ∨ j = 9 ∨ j = 10 ∨ j = 11 := by omega
    rcases hj' with e | hj'
    · subst e
      clear ih2
      refine goT hB2 s5_ok rfl rfl (by simp [conj]) ?_
      refine run_condF rfl (by decide) ?_
      refine goT hB2 s5_ok rfl rfl (by simp [conj]) ?_
      refine run_inR [] (.inl rfl) trivial rfl rfl (by simp [conj]) ?_
      refine run_endR 14 rfl rfl (by decide) rfl ?_
      refine goT hB2 s5_ok rfl rfl (by simp [conj]) ?_
      refine run_condF rfl (by simp) ?_
      refine goT hB2 s5_ok rfl rfl (by simp [conj, Fits_i64]) ?_
      refine run_back ?_
      refine goT hB2 s5_ok rfl rfl (by simp [conj]) ?_
      refine run_condF rfl (by simp) ?_
      refine goT hB2 s5_ok rfl rfl (by simp [conj]) ?_
      exact run_retMC (((More.refl B).pin2 hpin (by omega)).pin2 hpin1 (by omega)) hpin () trivial [13, 9] [0] (.inr ⟨_, rfl⟩) ⟨rfl, rfl, rfl, rfl, trivial⟩ rfl rfl rfl (by simp [conj]) rfl (by simp [conj, ren_ak, less_rfl])
    have ih2 := ih2 (j + 1) (by omega) (by omega)
    rcases hj' with e | e | e | e | e | e | e | e | e | e | e | e
    all_goals
      subst e
      refine goT hB2 s5_ok rfl rfl (by clear ih2; simp [conj]) ?_
      refine run_condT rfl (by decide) ?_
      refine goT hB2 s5_ok rfl rfl (by clear ih2; simp [conj]) ?_
      refine run_yield 14 rfl rfl (by clear ih2; simp [conj]) rfl rfl rfl ?_
      refine goT hB2 s5_ok rfl rfl (by clear ih2; simp [conj]) ?_
      refine run_begin 14 rfl rfl rfl rfl ?_
      refine goT hB2 s5_ok rfl rfl (by clear ih2; simp [conj]) ?_
      refine run_condF rfl (by clear ih2; simp [nr, idAt, isId, idxOf]) ?_
      refine goT hB2 s5_ok rfl rfl (by clear ih2; simp [conj, Fits_i64]) ?_
      refine run_condF rfl (by clear ih2; simp) ?_
      refine goT hB2 s5_ok rfl rfl (by clear ih2; simp [conj]) ?_
      refine run_round 14 .off rfl rfl rfl rfl ?_
      refine goT hB2 s5_ok rfl rfl (by clear ih2; simp [conj, Fits_i64]) ?_
      refine run_back ?_
      exact run_to hpin2 [0, 1, 2, 3, 4, 5, 6, 7, 8, 9, 10, 11, 12, 13, 14, 15] rfl rfl (by clear ih2; simp [conj, less_rfl, stAfter, ren_ak, ren_nr, renR_nr]) ih2
end Sx
