/- ArbiterQueues returns true. Conditions: as the theorem says. -/
import Derived.Test.YtkoeikjcnancdaaAu
import Derived.Test.YtkoeikjcnancdaaEngX4
set_option linter.unusedSimpArgs false
set_option linter.unusedVariables false
namespace Sx
open Go Go.Proofs
set_option maxRecDepth 100000
def rcRa (s : ASt) (Q : Ld) (q c : Int) (sg : List Nat) : RC := ⟨19, [refV s 0 Q.length, i64 q, i64 c], [], qH Q Q.length, 1, .tup [refV s 1 (Q.length + 1), i64 0], [(1, .row 0 (Q.length + 1) (Q.length + 1) 2 (ldr (insQ q c Q)) 63)], 2, sg⟩
def rcRaB (s : ASt) (Q : Ld) (q c : Int) (sg : List Nat) : RC := ⟨19, [refV s 0 Q.length, i64 q, i64 c], [], qH Q Q.length, 1, .tup [refV s 0 Q.length, i64 (addE s q c)], [], 1, sg⟩
abbrev lqH (many : Int) (s t : ASt) (Q : Ld) : Hp := [(2, .cells [i64 many] 3), (3, .cells [.ff] 4), (4, .cells (objL t 5) 70), (5, .map .i64 t.h (.ints .i64 t.v)), (6, .cells (refL s 7 Q.length .no) 49), (7, .row 0 Q.length Q.length 2 (ldr Q) 63)]
set_option maxHeartbeats 8000000 in
theorem lawqueues_hc (w : Bool) (b hi me lo : Int) (off n : Nat) (W : Nat → Int) (many : Int) :
    HC Try.prog 7 [cfgV w b hi me lo, .sq 0 off 0 1 n .no, i64 many] [] [(0, .row off n n 1 (nr .i64 W) anyTy)] 1 (fun _ : Unit => True) (fun _ => ⟨.tt, [], 1⟩) := by
  refine hc_of_run Try.func7 rfl (fun B hB hpin => ?_)
  refine goK hB s2_ok rfl rfl (by simp [conj]) ?_
  cases hok : okC w b hi me lo with
  | false =>
    refine run_callC (new_bad w b hi me lo hok) named hB [] rfl rfl rfl rfl (by simp [conj]) (by simp [conj, less_rfl, ren_nr]) ?_
    rintro ⟨⟩ _
    refine ⟨show 0 ≤ 0 by omega, _, _, _, rfl, rfl, rfl, ?_⟩
    refine goK hB s2_ok rfl rfl (by simp [conj]) ?_
    refine run_condT rfl (by simp) ?_
    refine goK hB s2_ok rfl rfl (by simp [conj]) ?_
    refine run_callC known_hc named hB [] rfl rfl rfl rfl (by simp [conj]) (by simp [conj, less_rfl, ren_nr]) ?_
    rintro ⟨⟩ _
    refine ⟨show 0 ≤ 0 by omega, _, _, _, rfl, rfl, rfl, ?_⟩
    refine goK hB s2_ok rfl rfl (by simp [conj]) ?_
    exact run_retC hpin () trivial [0] rfl rfl (by simp [conj]) rfl (by simp [conj, less_rfl, ren_nr])
  | true =>
  refine run_callC (new_ok w b hi me lo hok) named hB [] rfl rfl rfl rfl (by simp [conj]) (by simp [conj, less_rfl, ren_nr]) ?_
  rintro ⟨⟩ _
  refine ⟨show 0 ≤ 2 by omega, _, _, _, rfl, rfl, rfl, ?_⟩
  refine goK hB s2_ok rfl rfl (by simp [conj]) ?_
  refine run_cond rfl (fun hq => ?_) (fun hq => ?_)
  · refine goK hB s2_ok rfl rfl (by simp [conj]) ?_
    refine run_callC known_hc named hB [] rfl rfl rfl rfl (by simp [conj]) (by simp [conj, less_rfl, ren_nr]) ?_
    rintro ⟨⟩ _
    refine ⟨show 0 ≤ 0 by omega, _, _, _, rfl, rfl, rfl, ?_⟩
    refine goK hB s2_ok rfl rfl (by simp [conj]) ?_
    exact run_retC hpin () trivial [0] rfl rfl (by simp [conj]) rfl (by simp [conj, less_rfl, ren_nr])
  have hn : n ≤ 30 := by simp at hq; omega
  clear hq
  refine goK hB s2_ok rfl rfl (by simp [conj]) ?_
  refine run_callC (refnew_hc w b hi me lo) named hB [] rfl rfl rfl rfl (by simp [conj]) (by simp [conj, less_rfl, ren_nr]) ?_
  rintro ⟨⟩ _
  refine ⟨show 0 ≤ 0 by omega, _, _, _, rfl, rfl, rfl, ?_⟩
  refine goK hB s2_ok rfl rfl (by simp [conj]) ?_
  refine run_loop ?_
  refine run_inv (ι := Nat × ASt × Ld) hpin (fun x => x.1 ≤ n ∧ x.2.2.length ≤ x.1 ∧ QOk x.2.1 x.2.2) (fun x => n - x.1)
    (fun x => [(1, .sq 0 off 0 1 n .no), (5, .ptr 2 0), (6, .ptr 3 0), (7, .ptr 4 0), (9, .ptr 6 0), (10, i64 x.1)]) (fun _ => [])
    (fun x => lqH many x.2.1 x.2.1 x.2.2) 8 (0, aNew w b hi me lo, []) ⟨Nat.zero_le _, Nat.le_refl _, .nil _ _ _ _ _⟩
    [0, 1, 2, 3, 4, 5, 6, 7] rfl rfl (by simp [conj, less_rfl, ren_ldr, ren_nr]) ?_
  rintro ⟨i, s, Q⟩ ⟨h1, h2, h3⟩ ih
  dsimp only at h1 h2 h3
  refine goK hB s2_ok rfl rfl (by simp [conj]) ?_
  refine run_cond rfl (fun h => ?_) (fun h => ?_)
  · have hi : i < n := by simpa using h
    refine goK hB s2_ok rfl rfl (by simp [conj, hi]) ?_
    have ei : W (0 + (i : Int).toNat) = W i := by simp
    refine run_callC (add_hc s (W i) ((i : Int) % 4)) named hB [4, 5] rfl rfl rfl rfl (by simp [conj]) (by simp [conj, less_rfl, ren_nr, ei]) ?_
    rintro ⟨⟩ _
    refine ⟨show 2 ≤ 2 by omega, _, _, _, rfl, rfl, rfl, ?_⟩
    obtain ⟨n1, n2, n3, n4, n5, n6, n7, n8, n9, n10, n11, n12, n13⟩ := addS_num s (W i) ((i : Int) % 4)
    refine goK hB s2_ok rfl rfl (by simp [conj, hi]) ?_
    refine run_draw0 mixed (fun t => ?_)
    refine run_pinK 7 (show 7 < 8 by omega) (fun b' r' hM => ?_)
    have hB' : (B.pinA 7 b' r').ok := Base.pinA_ok hB
    by_cases he : addE s (W i) ((i : Int) % 4) = 0
    · have h4 := h3.add he
      obtain ⟨s', hs'⟩ : ∃ s', s' = addS s (W i) ((i : Int) % 4) := ⟨_, rfl⟩
      rw [← hs'] at n1 n2 n3 n4 n5 n6 n7 n8 n9 n10 n11 n12 n13 h4 ⊢
      have ih := ih (i + 1, s', insQ (W i) ((i : Int) % 4) Q) ⟨by show i + 1 ≤ n; omega, by show (insQ _ _ _).length ≤ i + 1; rw [insQ_length]; omega, h4⟩ (by show n - (i + 1) < n - i; omega)
      refine run_drawC (M := modeK s2) 1 12 rfl named hB' s2_ok [(15, rcRa s Q (W i) ((i : Int) % 4) [7])] ⟨⟨refadd_ok s Q Q.length (by omega) h3.h _ _ he, rfl, by show 1 ≤ 2; omega⟩, trivial⟩ rfl rfl rfl rfl rfl rfl (by simp [conj, less_rfl, SO.Live, ren_ldr, renR_ldr, hi, ei]; exact .inr pinned_A) (fun t => ?_)
      refine run_drawE rfl ?_
      refine goK hB' s2_ok rfl rfl (by simp [conj, hi, Fits_i64]; omega) ?_
      refine run_unpin hM ?_
      refine run_back ?_
      refine run_to hpin [0, 1, 2, 3, 4, 5, 6, 15] rfl rfl ?_ ih
      clear ih
      simp [conj, less_rfl, ren_ldr, renR_ldr, ren_nr, insQ_length, n1, n2, n3, n4, n5, n6, n7, n8, n9, n10, n11, n12, n13]
    · have h4 := addS_bad he
      rw [h4]
      have ih := ih (i + 1, s, Q) ⟨by show i + 1 ≤ n; omega, by show Q.length ≤ i + 1; omega, h3⟩ (by show n - (i + 1) < n - i; omega)
      refine run_drawC (M := modeK s2) 1 12 rfl named hB' s2_ok [(15, rcRaB s Q (W i) ((i : Int) % 4) [7])] ⟨⟨refadd_bad s Q Q.length (by omega) h3.h _ _ he, rfl, Nat.le_refl _⟩, trivial⟩ rfl rfl rfl rfl rfl rfl (by simp [conj, less_rfl, SO.Live, ren_ldr, renR_ldr, hi, ei]; exact .inr pinned_A) (fun t => ?_)
      refine run_drawE rfl ?_
      refine goK hB' s2_ok rfl rfl (by simp [conj, hi, Fits_i64]; omega) ?_
      refine run_unpin hM ?_
      refine run_back ?_
      refine run_to hpin [0, 1, 2, 3, 4, 5, 6, 7] rfl rfl ?_ ih
      clear ih
      simp [conj, less_rfl, ren_ldr, ren_nr]
  · have hi : i = n := by simp at h; omega
    subst hi
    clear ih
    have hlen : (numL Q).length = Q.length := by simp
    have hk := h3.keys
    have hm : Q.length ≤ 30 := by omega
    refine goK hB s2_ok rfl rfl (by simp [conj]) ?_
    refine run_callC (queues_hc s) named hB [4, 5] rfl rfl rfl rfl (by simp [conj]) (by simp [conj, less_rfl]) ?_
    rintro ⟨⟩ _
    refine ⟨show 2 ≤ 4 by omega, _, _, _, rfl, rfl, rfl, ?_⟩
    refine goK hB s2_ok rfl rfl (by simp [conj, isFn59]) ?_
    refine run_condF rfl rfl ?_
    refine goK hB s2_ok rfl rfl (by simp [conj]) ?_
    refine run_loop ?_
    refine run_inv (ι := Nat × ASt) hpin (fun x => x.1 ≤ i) (fun x => i - x.1)
      (fun x => [(1, .sq 0 off 0 1 i .no), (5, .ptr 2 0), (6, .ptr 3 0), (7, .ptr 4 0), (9, .ptr 6 0), (11, .clo (.func 44) [] [.ptr 8 0]), (12, i64 x.1)]) (fun _ => [])
      (fun x => lqH many s x.2 Q ++ [(8, .cells [.mp 9] 68), (9, .map .i64 s.h (.ints .i64 s.v))]) 10 (0, s) (Nat.zero_le _)
      [0, 1, 2, 3, 4, 5, 6, 7, 8, 9] rfl rfl (by simp [conj, less_rfl, ren_ldr, ren_nr]) ?_
    rintro ⟨j, u⟩ hj ih
    dsimp only at hj
    refine goK hB s2_ok rfl rfl (by simp [conj]) ?_
    refine run_cond rfl (fun h => ?_) (fun h => ?_)
    · have hi : j < i := by simpa using h
      refine goK hB s2_ok rfl rfl (by simp [conj, hi]) ?_
      have ei : W (0 + (j : Int).toNat) = W j := by simp
      refine run_callC (rem_hc u (W j)) named hB [4, 5] rfl rfl rfl rfl (by simp [conj]) (by simp [conj, less_rfl, ren_nr, ei]) ?_
      rintro ⟨⟩ _
      refine ⟨show 2 ≤ 2 by omega, _, _, _, rfl, rfl, rfl, ?_⟩
      obtain ⟨u', hu'⟩ : ∃ u', u' = remS u (W j) := ⟨_, rfl⟩
      rw [← hu']
      have ih := ih (j + 1, u') (by show j + 1 ≤ i; omega) (by show i - (j + 1) < i - j; omega)
      refine goK hB s2_ok rfl rfl (by simp [conj, Fits_i64]; omega) ?_
      refine run_back ?_
      refine run_to hpin [0, 1, 2, 3, 4, 5, 6, 7, 8, 9] rfl rfl ?_ ih
      clear ih
      simp [conj, less_rfl, ren_ldr, ren_nr]
    clear ih h hj
    refine goK hB s2_ok rfl rfl (by simp [conj]) ?_
    refine run_loop ?_
    refine run_inv (ι := Unit) hpin (fun _ => True) (fun _ => 0)
      (fun _ => [(5, .ptr 1 0), (6, .ptr 2 0), (9, .ptr 3 0), (11, .clo (.func 44) [] [.ptr 5 0]), (13, .ptr 7 0)]) (fun _ => [])
      (fun _ => [(1, .cells [i64 many] 3), (2, .cells [.ff] 4), (3, .cells (refL s 4 Q.length .no) 49), (4, .row 0 Q.length Q.length 2 (ldr Q) 63), (5, .cells [.mp 6] 68), (6, .map .i64 s.h (.ints .i64 s.v)), (7, .cells [i64 0] 3)]) 8 ()
      trivial [0, 2, 3, 6, 7, 8, 9, 10] rfl rfl (by simp [conj, less_rfl, ren_ldr, ren_nr]) ?_
    rintro _ _ _
    refine goK hB s2_ok rfl rfl (by simp [conj]) ?_
    refine run_condT rfl (by simp) ?_
    refine goK hB s2_ok rfl rfl (by simp [conj]) ?_
    refine run_range named hB rfl rfl (by simp [conj]) rfl rfl rfl rfl ?_
    intro D l'
    have hB1 : (B.pin2 9 D l').ok := Base.pin2_ok hB
    have hpin1 : PinTo (B.pin2 9 D l') 11 := hpin.pin2 (by omega)
    apply run_share (B := B.pin2 9 D l') (fun N TD => ⟨⟨⟨7, none, [D]⟩, N, [(5, .ptr 1 0), (6, .ptr 2 0), (9, .ptr 3 0), (11, .clo (.func 44) [] [.ptr 5 0]), (13, .ptr 11 0)], TD⟩, [],
      [(1, .cells [i64 many] 3), (2, .cells [.ff] 4), (3, .cells (refL s 4 Q.length .no) 49), (4, .row 0 Q.length Q.length 2 (ldr Q) 63), (5, .cells [.mp 6] 68), (6, .map .i64 s.h (.ints .i64 s.v)), (9, .obj (.deferred (some []))), (11, .cells [i64 1] 3)], 12⟩)
    · intro turn1
      refine goK hB1 s2_ok rfl rfl (by simp [conj]) ?_
      refine run_callC (sorted58_hc s.h s.v (numL Q) hk (by omega)) named hB1 [11, 6] rfl rfl rfl rfl (by simp [conj]) (by simp [conj, less_rfl]) ?_
      rintro ⟨⟩ _
      refine ⟨show 2 ≤ 3 by omega, _, _, _, rfl, rfl, rfl, ?_⟩
      rw [hlen]
      refine goK hB1 s2_ok rfl rfl (by clear turn1; simp [conj]) ?_
      refine run_loop ?_
      refine run_invK (ι := Nat) hpin1 (fun j => j ≤ Q.length ∧ (j = 0 ∨ (j : Int) < many)) (fun j => Q.length - j)
        (fun j => [(0, .clo (.yield l') [] []), (1, .ptr 5 0), (7, .sq 11 0 0 1 Q.length .no), (8, i64 Q.length), (9, i64 j)])
        (fun _ => [[(5, .ptr 1 0), (6, .ptr 2 0), (9, .ptr 3 0), (11, .clo (.func 44) [] [.ptr 5 0]), (13, .ptr 7 0), (14, .ptr 8 0)]]) [9, 10]
        (fun j => [(1, .cells [i64 many] 3), (2, .cells [.ff] 4), (3, .cells (refL s 4 Q.length .no) 49), (4, .row 0 Q.length Q.length 2 (ldr Q) 63), (5, .cells [.mp 6] 68), (6, .map .i64 s.h (.ints .i64 s.v)), (7, .cells [i64 0] 3), (8, .cells [i64 j] 3), (11, .row 0 Q.length Q.length 1 (rowL .i64 (numL Q)) 3)]) 12 0
        ⟨Nat.zero_le _, .inl rfl⟩ [0, 1, 2, 3, 4, 5, 6, 7, 8, 9, 10, 12] rfl rfl (by clear turn1; simp [conj, less_rfl, ren_nr, ren_ldr, ren_rowL, renR_rowL]) ?_
      rintro j ⟨hj1, hj2⟩ ih2
      refine goK hB1 s2_ok rfl rfl (by clear turn1 ih2; simp [conj]) ?_
      refine run_cond rfl (fun h => ?_) (fun h => ?_)
      · have hi : j < Q.length := by simpa using h
        have hmem : Q[j] ∈ Q := List.getElem_mem hi
        have hin : s.h Q[j].1 = true := by rw [h3.h]; exact hasQ_iff.2 ⟨_, hmem, rfl⟩
        have hv := h3.v _ hmem
        have ih2 := fun hh => ih2 (j + 1) ⟨by omega, .inr hh⟩ (by omega)
        have hEj : many ≤ (j : Int) + 1 → min (Q.length : Int) (max 1 many) = (j : Int) + 1 := by intro hm; omega
        refine goK hB1 s2_ok rfl rfl (by clear turn1 ih2; simp [conj, hi]) ?_
        refine run_yield 10 rfl rfl (by clear turn1 ih2; simp [conj]) rfl rfl rfl ?_
        refine goK hB1 s2_ok rfl rfl (by clear turn1 ih2; simp [conj]) ?_
        refine run_begin 10 rfl rfl rfl rfl ?_
        refine goK hB1 s2_ok rfl rfl (by clear turn1 ih2; simp [conj, hi]) ?_
        refine run_condF rfl (by clear turn1 ih2; simp [hi, hin, hv]) ?_
        refine goK hB1 s2_ok rfl rfl (by clear turn1 ih2; simp [conj, Fits_i64]; omega) ?_
        refine run_cond rfl (fun hq => ?_) (fun hq => ?_)
        · simp at hq
          clear ih2
          have hE := hEj (by simpa using hq)
          refine run_round 10 (.exit _ _ rfl) rfl rfl rfl rfl ?_
          refine goK hB1 s2_ok rfl rfl (by clear turn1; simp [conj]) ?_
          refine run_inR [] (.inr ⟨_, rfl⟩) trivial rfl rfl (by clear turn1; simp [conj]) ?_
          refine run_endR 10 rfl rfl (by decide) rfl ?_
          refine goK hB1 s2_ok rfl rfl (by clear turn1; simp [conj, hE]) ?_
          refine run_condF rfl (by clear turn1; simp [hE]) ?_
          refine goK hB1 s2_ok rfl rfl (by clear turn1; simp [conj, Fits_i64]) ?_
          refine run_back ?_
          exact run_to hpin1 [0, 1, 2, 3, 4, 5, 6, 7, 8, 9, 10, 12] rfl rfl (by clear turn1; simp [conj, less_rfl, ren_ldr, ren_nr, ren_rowL, renR_rowL]) turn1
        · simp at hq
          refine goK hB1 s2_ok rfl rfl (by clear turn1 ih2; simp [conj]) ?_
          refine run_round 10 .off rfl rfl rfl rfl ?_
          refine goK hB1 s2_ok rfl rfl (by clear turn1 ih2; simp [conj, Fits_i64]; omega) ?_
          refine run_back ?_
          exact run_to hpin1 [0, 1, 2, 3, 4, 5, 6, 7, 8, 9, 10, 11] rfl rfl (by clear turn1 ih2; simp [conj, less_rfl, stAfter, ren_ldr, ren_nr, ren_rowL, renR_rowL]) (ih2 (by simp; omega))
      · have hi : j = Q.length := by simp at h; omega
        subst hi
        clear ih2
        have hE : min (Q.length : Int) (max 1 many) = Q.length := by
          have := hj2
          omega
        refine goK hB1 s2_ok rfl rfl (by clear turn1; simp [conj]) ?_
        refine run_inR [] (.inl rfl) trivial rfl rfl (by clear turn1; simp [conj]) ?_
        refine run_endR 10 rfl rfl (by decide) rfl ?_
        refine goK hB1 s2_ok rfl rfl (by clear turn1; simp [conj, hE]) ?_
        refine run_condF rfl (by clear turn1; simp [hE]) ?_
        refine goK hB1 s2_ok rfl rfl (by clear turn1; simp [conj, Fits_i64]) ?_
        refine run_back ?_
        exact run_to hpin1 [0, 1, 2, 3, 4, 5, 6, 7, 8, 9, 10, 12] rfl rfl (by clear turn1; simp [conj, less_rfl, ren_ldr, ren_nr, ren_rowL, renR_rowL]) turn1
    refine goK hB1 s2_ok rfl rfl (by simp [conj]) ?_
    refine run_condT rfl (by simp) ?_
    refine goK hB1 s2_ok rfl rfl (by simp [conj]) ?_
    refine run_range named hB1 rfl rfl (by simp [conj]) rfl rfl rfl rfl ?_
    intro D2 l2
    have hB2 : ((B.pin2 9 D l').pin2 13 D2 l2).ok := Base.pin2_ok hB1
    have hpin2 : PinTo ((B.pin2 9 D l').pin2 13 D2 l2) 15 := hpin1.pin2 (by omega)
    refine goK hB2 s2_ok rfl rfl (by simp [conj]) ?_
    refine run_callC (sorted58_hc s.h s.v (numL Q) hk (by omega)) named hB2 [15, 6] rfl rfl rfl rfl (by simp [conj]) (by simp [conj, less_rfl]) ?_
    rintro ⟨⟩ _
    refine ⟨show 2 ≤ 3 by omega, _, _, _, rfl, rfl, rfl, ?_⟩
    rw [hlen]
    refine goK hB2 s2_ok rfl rfl (by simp [conj]) ?_
    refine run_loop ?_
    refine run_invK (ι := Nat) hpin2 (fun j => j ≤ Q.length) (fun j => Q.length - j)
      (fun j => [(0, .clo (.yield l2) [] []), (1, .ptr 5 0), (7, .sq 15 0 0 1 Q.length .no), (8, i64 Q.length), (9, i64 j)])
      (fun _ => [[(5, .ptr 1 0), (6, .ptr 2 0), (9, .ptr 3 0), (11, .clo (.func 44) [] [.ptr 5 0]), (13, .ptr 11 0), (14, .ptr 12 0)]]) [13, 14]
      (fun j => [(1, .cells [i64 many] 3), (2, .cells [.ff] 4), (3, .cells (refL s 4 Q.length .no) 49), (4, .row 0 Q.length Q.length 2 (ldr Q) 63), (5, .cells [.mp 6] 68), (6, .map .i64 s.h (.ints .i64 s.v)), (9, .obj (.deferred (some []))), (11, .cells [i64 1] 3), (12, .cells [i64 j] 3), (15, .row 0 Q.length Q.length 1 (rowL .i64 (numL Q)) 3)]) 16 0
      (Nat.zero_le _) [0, 1, 2, 3, 4, 5, 6, 7, 8, 9, 10, 11, 12, 13, 14, 16] rfl rfl (by simp [conj, less_rfl, ren_ldr, ren_nr, ren_rowL, renR_rowL]) ?_
    intro j hj1 ih2
    refine goK hB2 s2_ok rfl rfl (by clear ih2; simp [conj]) ?_
    refine run_cond rfl (fun h => ?_) (fun h => ?_)
    · have hi : j < Q.length := by simpa using h
      have hmem : Q[j] ∈ Q := List.getElem_mem hi
      have hin : s.h Q[j].1 = true := by rw [h3.h]; exact hasQ_iff.2 ⟨_, hmem, rfl⟩
      have hv := h3.v _ hmem
      have ih2 := ih2 (j + 1) (by omega) (by omega)
      refine goK hB2 s2_ok rfl rfl (by clear ih2; simp [conj, hi]) ?_
      refine run_yield 14 rfl rfl (by clear ih2; simp [conj]) rfl rfl rfl ?_
      refine goK hB2 s2_ok rfl rfl (by clear ih2; simp [conj]) ?_
      refine run_begin 14 rfl rfl rfl rfl ?_
      refine goK hB2 s2_ok rfl rfl (by clear ih2; simp [conj, hi]) ?_
      refine run_condF rfl (by clear ih2; simp [hi, hin, hv]) ?_
      refine goK hB2 s2_ok rfl rfl (by clear ih2; simp [conj, Fits_i64]; omega) ?_
      refine run_condF rfl (by clear ih2; simp) ?_
      refine goK hB2 s2_ok rfl rfl (by clear ih2; simp [conj]) ?_
      refine run_round 14 .off rfl rfl rfl rfl ?_
      refine goK hB2 s2_ok rfl rfl (by clear ih2; simp [conj, Fits_i64]; omega) ?_
      refine run_back ?_
      exact run_to hpin2 [0, 1, 2, 3, 4, 5, 6, 7, 8, 9, 10, 11, 12, 13, 14, 15] rfl rfl (by clear ih2; simp [conj, less_rfl, stAfter, ren_ldr, ren_nr, ren_rowL, renR_rowL]) ih2
    · have hi : j = Q.length := by simp at h; omega
      subst hi
      clear ih2
      refine goK hB2 s2_ok rfl rfl (by simp [conj]) ?_
      refine run_inR [] (.inl rfl) trivial rfl rfl (by simp [conj]) ?_
      refine run_endR 14 rfl rfl (by decide) rfl ?_
      refine goK hB2 s2_ok rfl rfl (by simp [conj]) ?_
      refine run_condF rfl (by simp) ?_
      refine goK hB2 s2_ok rfl rfl (by simp [conj, Fits_i64]) ?_
      refine run_back ?_
      refine goK hB2 s2_ok rfl rfl (by simp [conj]) ?_
      refine run_condF rfl (by simp) ?_
      refine goK hB2 s2_ok rfl rfl (by simp [conj]) ?_
      refine run_callC known_hc named hB2 [] rfl rfl rfl rfl (by simp [conj]) (by simp [conj, less_rfl, ren_nr]) ?_
      rintro ⟨⟩ _
      refine ⟨show 0 ≤ 0 by omega, _, _, _, rfl, rfl, rfl, ?_⟩
      refine goK hB2 s2_ok rfl rfl (by simp [conj]) ?_
      exact run_retMC (((More.refl B).pin2 hpin (by omega)).pin2 hpin1 (by omega)) hpin () trivial [13, 9] [0] (.inr ⟨_, rfl⟩) ⟨rfl, rfl, rfl, rfl, trivial⟩ rfl rfl rfl (by simp [conj]) rfl (by simp [conj, ren_nr, ren_ldr, less_rfl])
end Sx
