/- What MappingCopies computes: true. Conditions: as each theorem says. -/
import Derived.Test.YtdphonnleoklgaaMt
import Derived.Test.YtdphonnleoklgaaMaa
set_option linter.unusedSimpArgs false
set_option linter.unusedVariables false
namespace Sx
open Go Go.Proofs
set_option maxRecDepth 100000
set_option maxHeartbeats 80000000 in
theorem copies_hc (K : Kn) (off m : Nat) (V : Nat → Value) (E : Nat → Ld) (hE : KIn K m V E) (va vb : Value) (Ea Eb : Ld) (ha : Froz K va Ea.length 2 (ldr Ea)) (hb : Froz K vb Eb.length 2 (ldr Eb)) (S Bk P blk many : Int) :
    HCX Try.prog K M0 5 [i64 S, i64 Bk, i64 P, .sq 0 off 0 1 m .no, .agg [.val va, .val vb], i64 blk, i64 many] [] (inRo off m V) 1 (fun (_ : Unit) _ => True) (fun _ => ⟨.tt, [], 1⟩) := by
  refine hcx_of_run Try.func5 rfl (fun B hB hK hpin => ?_)
  have hF : Fz B K M0 B K := .refl hB hK
  refine goLY hB [(5, 32)] 300 rfl (by simp [conj]) ?_
  by_cases q1 : 30 < S
  · refine run_tt (by simpa using q1) ?_
    refine goLY hB [] 300 rfl (by simp [conj]) ?_
    exact run_retF hF hpin () trivial [0] rfl rfl (by simp [conj]) rfl (by simp [conj, ren_valR, less_rfl])
  refine run_ff (by simpa using q1) ?_
  refine goLY hB [(5, 35)] 300 rfl (by simp [conj]) ?_
  by_cases q2 : 8 < Bk
  · refine run_tt (by simpa using q2) ?_
    refine goLY hB [] 300 rfl (by simp [conj]) ?_
    exact run_retF hF hpin () trivial [0] rfl rfl (by simp [conj]) rfl (by simp [conj, ren_valR, less_rfl])
  refine run_ff (by simpa using q2) ?_
  refine goLY hB [(5, 39)] 300 rfl (by simp [conj]) ?_
  by_cases q3 : 8 < P
  · refine run_tt (by simpa using q3) ?_
    refine goLY hB [] 300 rfl (by simp [conj]) ?_
    exact run_retF hF hpin () trivial [0] rfl rfl (by simp [conj]) rfl (by simp [conj, ren_valR, less_rfl])
  refine run_ff (by simpa using q3) ?_
  refine goLY hB [] 300 rfl (by simp [conj]) ?_
  refine run_callX (few_hc K off m V E hE 20 (by decide)) named hB hK (fun _ h => h.elim) (.inr fun _ h => h) [0] rfl rfl rfl rfl (by simp [conj]) (by simp [conj, less_rfl, ren_valR]) ?_
  rintro ⟨⟩ B' K' rfl hF' hp'
  refine ⟨show 1 ≤ 1 by omega, _, _, _, rfl, rfl, rfl, ?_⟩
  have hpin' := hpin.fz hF' hp'
  have hB' := hF'.ok
  have hK' := hF'.le
  cases hfew : fewB m E 20 with
  | false =>
    refine goLY hB' [] 300 rfl (by simp [conj]) ?_
    exact run_retF hF' hpin' () trivial [0] rfl rfl (by simp [conj]) rfl (by simp [conj, ren_valR, less_rfl])
  | true =>
  obtain ⟨m1, m2⟩ := fewB_iff.1 hfew
  refine goLY hB' [] 300 rfl (by simp [conj]) ?_
  refine run_callX (few2_hc K' va vb Ea Eb ha hb) named hB' hK' (fun _ h => h.elim) (.inr fun _ h => h) [1] rfl rfl rfl rfl (by simp [conj]) (by simp [conj, less_rfl, ren_valR]; rfl) ?_
  rintro ⟨⟩ B2 K2 rfl hF2 hp2
  have hF'' : Fz B K2 M0 B2 K2 := hF'.trans0 hF2 hF.le (fun _ h => h.elim)
  have hpin2 := hpin'.fz hF2 hp2
  clear hpin' hB' hK' hF' hp' hF2
  have hB' := hF''.ok
  have hK' := hF''.le
  have hF' := hF''
  have hpin' := hpin2
  refine ⟨show 1 ≤ 1 by omega, _, _, _, rfl, rfl, rfl, ?_⟩
  cases hfew2 : (decide (Ea.length ≤ 20) && decide (Eb.length ≤ 20)) with
  | false =>
    refine goLY hB' [] 300 rfl (by simp [conj]) ?_
    exact run_retF hF' hpin' () trivial [0] rfl rfl (by simp [conj]) rfl (by simp [conj, ren_valR, less_rfl])
  | true =>
  rw [Bool.and_eq_true, decide_eq_true_iff, decide_eq_true_iff] at hfew2
  obtain ⟨f1, f2⟩ := hfew2
  refine goLY hB' [] 300 rfl (by simp [conj]) ?_
  cases hN : okN S Bk P with
  | false =>
    refine run_callC (new_bad S Bk P hN) named hB' [] rfl rfl rfl rfl (by simp [conj]) (by simp [conj, less_rfl]) ?_
    rintro ⟨⟩ _
    refine ⟨show 0 ≤ 0 by omega, _, _, _, rfl, rfl, rfl, ?_⟩
    refine goL hB' rfl rfl (by simp [conj]) ?_
    refine run_condT rfl (by unfold okN at hN; exact Bool.not_eq_false' .. |>.mp hN) ?_
    refine goL hB' rfl rfl (by simp [conj, isBo4, isPt25]) ?_
    refine run_condT rfl (by simp) ?_
    refine goLY hB' [] 300 rfl (by simp [conj]) ?_
    exact run_retF hF' hpin' () trivial [0] rfl rfl (by simp [conj]) rfl (by simp [conj, ren_valR, less_rfl])
  | true =>
  have hN' := okN_iff.1 hN
  refine run_callC (new_ok S Bk P hN) named hB' [] rfl rfl rfl rfl (by simp [conj]) (by simp [conj, less_rfl]) ?_
  rintro ⟨⟩ _
  refine ⟨show 0 ≤ 4 by omega, _, _, _, rfl, rfl, rfl, ?_⟩
  refine goL hB' rfl rfl (by simp [conj]) ?_
  refine run_condF rfl (by simpa [okN] using hN) ?_
  refine goL hB' rfl rfl (by simp [conj, isBo4, isPt25]) ?_
  refine run_condF rfl (by simp) ?_
  refine goL hB' rfl rfl (by simp [conj]) ?_
  refine run_condF rfl (by simp) ?_
  refine goL hB' rfl rfl (by simp [conj]) ?_
  refine run_loop ?_
  refine run_inv (ι := Nat × Ld) hpin' (fun z => z.1 ≤ m ∧ MInv S (Bk * P) z.2) (fun z => m - z.1)
    (fun z => [(19, i64 z.1), (3, .sq 0 off 0 1 m .no), (15, .ptr 2 0), (17, .ptr 6 0), (11, .ptr 1 0), (5, i64 blk), (6, i64 many), (14, .ff)]) (fun _ => [])
    (fun z => (1, .cells [.val va, .val vb] 43) :: mpN S Bk P z.2 2 3 4 5 ++ [(6, .cells (rfL S Bk P 7 z.2.length .no) 38), (7, .row 0 z.2.length z.2.length 2 (ldr z.2) anyTy)]) 8 (0, []) ⟨Nat.zero_le _, MInv.nil _ _⟩
    [0, 1, 2, 3, 4, 5, 7, 8] rfl rfl (by simp [conj, less_rfl, ren_valR, ren_cntF, renR_cntF]) ?_
  rintro ⟨i, L⟩ ⟨h1, hL⟩ ih
  refine goL hB' rfl rfl (by simp [conj]) ?_
  refine run_cond rfl (fun h => ?_) (fun h => ?_)
  · have hi : i < m := by simpa using h
    refine goL hB' rfl rfl (by simp [conj, hi]) ?_
    have hFi := hE i hi
    have hEi := m2 i hi
    have hL2 := appG_inv hL (E i) L hL
    have ih := fun L2 (hL2 : MInv S (Bk * P) L2) => ih (i + 1, L2) ⟨by show i + 1 ≤ m; omega, hL2⟩ (by show m - (i + 1) < m - i; omega)
    have ih := ih _ hL2
    have hKB := hF'.le
    apply run_share (B := B2) (fun N TD => ⟨⟨fid 5, N, [(97, .val (V i)), (93, .ptr 2 0), (18, i64 (appG S Bk P L L (E i)).2), (19, i64 i), (3, .sq 0 off 0 1 m .no), (15, .ptr 2 0), (17, .ptr 6 0), (11, .ptr 1 0), (5, i64 blk), (6, i64 many), (14, .ff)], TD⟩, [],
      (1, .cells [.val va, .val vb] 43) :: mpN S Bk P L 2 3 4 5 ++ [(6, .cells (rfL S Bk P 7 (appG S Bk P L L (E i)).1.length .no) 38), (7, .row 0 (appG S Bk P L L (E i)).1.length (appG S Bk P L L (E i)).1.length 2 (ldr (appG S Bk P L L (E i)).1) anyTy)], 8⟩)
    · intro next
      refine run_draw0 mixed (fun t => ?_)
      cases hz : isNew S Bk P L (E i) with
      | true =>
        have he2 := isNew_new hz
        rw [he2] at next
        by_cases hLe : L = []
        · subst hLe
          refine run_drawK (M := modeL) (kn := K2) hKB 1 11 rfl named hB' sL_ok [(13, rcApN0 S Bk P (E i) (V i))] ⟨⟨applyR0_new K2 S Bk P hN (E i) hFi (by omega) (by omega) hz, rfl, by show 0 ≤ 1; omega⟩, trivial⟩ rfl rfl rfl rfl rfl rfl ?_ (fun t => ?_)
          · simp [conj, hi]
          refine run_drawE rfl ?_
          refine goL hB' rfl rfl (by simp [conj, hi]) ?_
          refine run_to hpin' [0, 1, 2, 3, 4, 5, 6, 13] rfl rfl ?_ next
          simp [conj, less_rfl, ren_valR, ren_cntF, renR_cntF, ren_ldr, renR_ldr]
        · have hl1 : 0 < L.length := List.length_pos_iff.2 hLe
          refine run_drawK (M := modeL) (kn := K2) hKB 1 11 rfl named hB' sL_ok [(13, rcApN S Bk P L (E i) L.length (V i) 7)] ⟨⟨applyR_new K2 S Bk P hN L hL L.length (E i) hFi (by omega) (by omega) hz, rfl, by show 1 ≤ 2; omega⟩, trivial⟩ rfl rfl rfl rfl rfl rfl ?_ (fun t => ?_)
          · simp [conj, hi, less_rfl, SO.Live, ren_ldr, renR_ldr, hl1]
          refine run_drawE rfl ?_
          refine goL hB' rfl rfl (by simp [conj, hi]) ?_
          refine run_to hpin' [0, 1, 2, 3, 4, 5, 6, 13] rfl rfl ?_ next
          simp [conj, less_rfl, ren_valR, ren_cntF, renR_cntF, ren_ldr, renR_ldr]
      | false =>
        have he2 := isNew_old hz
        rw [he2] at next
        by_cases hLe : L = []
        · subst hLe
          refine run_drawK (M := modeL) (kn := K2) hKB 1 11 rfl named hB' sL_ok [(13, rcApO0 S Bk P (E i) (V i))] ⟨⟨applyR0_old K2 S Bk P hN (E i) hFi (by omega) (by omega) hz, rfl, Nat.le_refl _⟩, trivial⟩ rfl rfl rfl rfl rfl rfl ?_ (fun t => ?_)
          · simp [conj, hi]
          refine run_drawE rfl ?_
          refine goL hB' rfl rfl (by simp [conj, hi]) ?_
          refine run_to hpin' [0, 1, 2, 3, 4, 5, 6, 13] rfl rfl ?_ next
          simp [conj, less_rfl, ren_valR, ren_cntF, renR_cntF, ren_ldr, renR_ldr]
        · have hl1 : 0 < L.length := List.length_pos_iff.2 hLe
          refine run_drawK (M := modeL) (kn := K2) hKB 1 11 rfl named hB' sL_ok [(13, rcApO S Bk P L (E i) L.length (V i) 7)] ⟨⟨applyR_old K2 S Bk P hN L hL L.length (E i) hFi (by omega) (by omega) hz, rfl, Nat.le_refl _⟩, trivial⟩ rfl rfl rfl rfl rfl rfl ?_ (fun t => ?_)
          · simp [conj, hi, less_rfl, SO.Live, ren_ldr, renR_ldr, hl1]
          refine run_drawE rfl ?_
          refine goL hB' rfl rfl (by simp [conj, hi]) ?_
          refine run_to hpin' [0, 1, 2, 3, 4, 5, 6, 7] rfl rfl ?_ next
          simp [conj, less_rfl, ren_valR, ren_cntF, renR_cntF, ren_ldr, renR_ldr]
    · refine run_open hK' 97 hFi (by decide) rfl (fun off2 => ?_)
      refine run_callC (apply_hc S Bk P hN L hL (E i) off2 (E i).length (by omega)) named hB' [2, 3, 4, 5, 8] rfl rfl rfl rfl (by simp [conj]) (by simp [conj, less_rfl, ren_cntF, ren_ldr]) ?_
      rintro ⟨⟩ _
      refine ⟨show 5 ≤ 5 by omega, _, _, _, rfl, rfl, rfl, ?_⟩
      refine run_close (.inl rfl) ?_
      generalize (appG S Bk P L L (E i)).1 = L2 at *
      generalize (appG S Bk P L L (E i)).2 = e2 at *
      refine goL hB' rfl rfl (by simp [conj]) ?_
      refine run_condF rfl (by simp) ?_
      refine goL hB' rfl rfl (by simp [conj, Fits_i64]; omega) ?_
      refine run_back ?_
      refine run_to hpin' [0, 1, 2, 3, 4, 5, 6, 7] rfl rfl ?_ ih
      clear ih
      simp [conj, less_rfl, ren_valR, ren_cntF, renR_cntF, ren_ldr, renR_ldr]
  · clear ih
    refine goL hB' rfl rfl (by simp [conj]) ?_
    have hL : MInv S (Bk * P) L := hL
    have hlen := len_le' hL (by omega)
    have hKB := hF'.le
    have hbk : 0 < Bk.toNat := by omega
    apply run_shareT (B := B2) (fun N TD => ⟨⟨fid 5, N, [(169, .tt), (20, .clo (.func 38) [] [.ptr 8 0, .ptr 9 0]), (21, .clo (.func 38) [] [.ptr 12 0, .ptr 13 0]), (17, .ptr 6 0), (5, i64 blk), (6, i64 many), (14, .ff), (29, i64 (rdN L.length many : Nat)), (30, i64 (rdN (ofL L Bk P blk).length many : Nat))], TD⟩, [],
      [(2, mapS S), (6, .cells (rfL S Bk P 7 L.length .no) 38), (7, .row 0 L.length L.length 2 (ldr L) anyTy)] ++ prN (L.map (fun x : Int × Int => x.1)) (L.map (fun x : Int × Int => x.2)) 8 9 10 11 ++ prN ((ofL L Bk P blk).map (fun x : Int × Int => x.2)) ((ofL L Bk P blk).map (fun x : Int × Int => x.1)) 12 13 14 15, 16⟩)
    · intro next
      have apX := apply_v K2 S Bk P hN L hL Ea ha (by omega)
      have apY := apply_v K2 S Bk P hN L hL Eb hb (by omega)
      have iX := appG_inv hL Ea L hL
      have iY := appG_inv hL Eb L hL
      refine run_callC (all_hc S Bk P L hL (by omega)) named hB' [2, 3, 4, 5] rfl rfl rfl rfl (by simp [conj]) (by simp [conj, less_rfl, ren_cntF]) ?_
      rintro ⟨⟩ _
      refine ⟨show 4 ≤ 8 by omega, _, _, _, rfl, rfl, rfl, ?_⟩
      refine goL hB' rfl rfl (by simp [conj]) ?_
      refine run_callC (pages_hc S Bk P hN L hL blk) named hB' [2, 3, 4, 5] rfl rfl rfl rfl (by simp [conj]) (by simp [conj, less_rfl, ren_cntF, renR_cntF]) ?_
      rintro ⟨⟩ _
      refine ⟨show 4 ≤ 8 by omega, _, _, _, rfl, rfl, rfl, ?_⟩
      refine goL hB' rfl rfl (by simp [conj, isFn45]) ?_
      refine run_condF rfl rfl ?_
      refine goL hB' rfl rfl (by simp [conj]) ?_
      refine run_callC (copy_hc S Bk P hN L) named hB' [2, 3, 4, 5] rfl rfl rfl rfl (by simp [conj]) (by simp [conj, less_rfl, ren_cntF, renR_cntF]) ?_
      rintro ⟨⟩ _
      refine ⟨show 4 ≤ 8 by omega, _, _, _, rfl, rfl, rfl, ?_⟩
      refine goL hB' rfl rfl (by simp [conj]) ?_
      refine run_open hK' 118 ha (by decide) rfl (fun offa => ?_)
      refine run_callC (applyR_hc S Bk P hN L hL L.length Ea offa Ea.length (by omega) (by omega)) named hB' [7, 20] rfl rfl rfl rfl (by simp [conj]) (by simp [conj, less_rfl, ren_ldr, renR_ldr]) ?_
      intro z hz
      cases z with
      | true =>
        refine ⟨show 2 ≤ 3 by omega, _, _, _, rfl, rfl, rfl, ?_⟩
        have hX := isNew_new hz.symm
        rw [hX] at apX
        clear hz hX
        generalize (appG S Bk P L L Ea).1 = X at apX iX ⊢
        have eX : Int := 0
        refine run_close (.inl rfl) ?_
        refine goL hB' rfl rfl (by simp [conj]) ?_
        refine run_open hK' 125 hb (by decide) rfl (fun offb => ?_)
        refine run_callC (applyR_hc S Bk P hN L hL L.length Eb offb Eb.length (by omega) (by omega)) named hB' [7, 23] rfl rfl rfl rfl (by simp [conj]) (by simp [conj, less_rfl, ren_ldr, renR_ldr]) ?_
        intro y hy
        cases y with
        | true =>
          refine ⟨show 2 ≤ 3 by omega, _, _, _, rfl, rfl, rfl, ?_⟩
          have hY := isNew_new hy.symm
          rw [hY] at apY
          clear hy hY
          generalize (appG S Bk P L L Eb).1 = Y at apY iY ⊢
          have eY : Int := 0
          refine run_close (.inl rfl) ?_
          refine goL hB' rfl rfl (by simp [conj]) ?_
          refine run_to (sl' := [(15, .ptr 2 0), (17, .ptr 6 0), (11, .ptr 1 0), (5, i64 blk), (6, i64 many), (14, .ff), (20, .clo (.func 38) [] [.ptr 8 0, .ptr 9 0]), (21, .clo (.func 38) [] [.ptr 12 0, .ptr 13 0]), (22, .ptr 16 0), (23, .ptr 20 0), (24, i64 0), (25, .ptr 21 0), (26, i64 0)]) (rest' := [])
            (hp' := (1, .cells [.val va, .val vb] 43) :: mpN S Bk P L 2 3 4 5 ++ [(6, .cells (rfL S Bk P 7 L.length .no) 38), (7, .row 0 L.length L.length 2 (ldr L) anyTy)] ++ prN (L.map (·.1)) (L.map (·.2)) 8 9 10 11 ++ prN ((ofL L Bk P blk).map (·.2)) ((ofL L Bk P blk).map (·.1)) 12 13 14 15 ++ mpN S Bk P L 16 17 18 19 ++ [(20, .cells (rfL S Bk P 22 X.length .no) 38), (21, .cells (rfL S Bk P 23 Y.length .no) 38), (22, .row 0 X.length X.length 2 (ldr X) anyTy), (23, .row 0 Y.length Y.length 2 (ldr Y) anyTy)]) hpin' [0, 1, 2, 3, 4, 5, 6, 7, 8, 9, 10, 11, 12, 13, 14, 15, 16, 17, 18, 19, 22, 25, 21, 24] rfl rfl ?_ ?_
          · simp [conj, less_rfl, ren_valR, ren_cntF, renR_cntF, ren_ldr, renR_ldr, ren_rowL, renR_rowL]
          refine run_draw0 mixed (fun t => ?_)
          refine run_drawK (M := modeL) (kn := K2) hKB 1 16 rfl named hB' sL_ok [(27, rcApV S Bk P L X 0 va [2, 3, 4, 5]), (28, rcNum 0), (34, rcApV S Bk P L Y 0 vb [16, 17, 18, 19]), (35, rcNum 0)] ⟨⟨apX, rfl, Nat.le_refl _⟩, ⟨hck_of_hc (num_hc _), rfl, Nat.le_refl _⟩, ⟨apY, rfl, Nat.le_refl _⟩, ⟨hck_of_hc (num_hc _), rfl, Nat.le_refl _⟩, trivial⟩ rfl rfl rfl rfl rfl rfl ?_ (fun t => ?_)
          · simp [conj, less_rfl, SO.Live, ren_cntF, renR_cntF, hbk]
          refine run_drawE rfl ?_
          refine goL hB' rfl rfl (by simp [conj]) ?_
          by_cases hLe : L = []
          · have hOE : ofL L Bk P blk = [] := by rw [hLe, ofL_nil]
            refine run_draw0 mixed (fun t => ?_)
            refine run_drawC (M := modeL) 1 15 rfl named hB' sL_ok [(48, rcOfE S Bk P blk)] ⟨⟨ofE_hc S Bk P hN blk, rfl, Nat.le_refl _⟩, trivial⟩ rfl rfl rfl rfl rfl rfl ?_ (fun t => ?_)
            · simp [conj, less_rfl, SO.Live, ren_ldr, renR_ldr, hLe]
            refine run_drawE rfl ?_
            refine goL hB' rfl rfl (by simp [conj]) ?_
            refine run_to (sl' := [(15, .ptr 2 0), (17, .ptr 6 0), (5, i64 blk), (6, i64 many), (14, .ff), (20, .clo (.func 38) [] [.ptr 8 0, .ptr 9 0]), (21, .clo (.func 38) [] [.ptr 12 0, .ptr 13 0]), (22, .ptr 16 0), (23, .ptr 20 0), (25, .ptr 21 0), (27, .tt), (28, .tt), (29, i64 (rdN L.length many : Nat)), (30, i64 (rdN (ofL L Bk P blk).length many : Nat))]) (rest' := [])
              (hp' := mpN S Bk P X 2 3 4 5 ++ [(6, .cells (rfL S Bk P 7 L.length .no) 38), (7, .row 0 L.length L.length 2 (ldr L) anyTy)] ++ prN (L.map (·.1)) (L.map (·.2)) 8 9 10 11 ++ prN ((ofL L Bk P blk).map (·.2)) ((ofL L Bk P blk).map (·.1)) 12 13 14 15 ++ mpN S Bk P Y 16 17 18 19 ++ [(20, .cells (rfL S Bk P 22 X.length .no) 38), (21, .cells (rfL S Bk P 23 Y.length .no) 38), (22, .row 0 X.length X.length 2 (ldr X) anyTy), (23, .row 0 Y.length Y.length 2 (ldr Y) anyTy)]) hpin' [0, 1, 2, 3, 4, 5, 6, 7, 8, 9, 10, 11, 12, 13, 14, 15, 16, 17, 18, 19, 20, 21, 22, 23] rfl rfl ?_ ?_
            · simp [conj, less_rfl, ren_valR, ren_cntF, renR_cntF, ren_ldr, renR_ldr, ren_rowL, renR_rowL, rdN_int, hOE] <;> omega
            by_cases hX : X = []
            · subst hX
              by_cases hY : Y = []
              · subst hY
                refine run_draw0 mixed (fun t => ?_)
                refine run_drawC (M := modeL) 1 14 rfl named hB' sL_ok [(31, rcIsE S Bk P [2, 3, 4, 5]), (36, rcIsE S Bk P [16, 17, 18, 19])] ⟨⟨isE_hc S Bk P hN (by omega), rfl, Nat.le_refl _⟩, ⟨isE_hc S Bk P hN (by omega), rfl, Nat.le_refl _⟩, trivial⟩ rfl rfl rfl rfl rfl rfl ?_ (fun t => ?_)
                · simp [conj, less_rfl, SO.Live, ren_cntF, renR_cntF, ren_ldr, renR_ldr, ren_rowL, renR_rowL, hbk, hLe]
                refine run_to hpin' [0, 1, 2, 3, 4, 5, 6, 7, 8, 9, 10, 11, 12, 13, 14, 15] rfl rfl ?_ (next t)
                clear next
                simp [conj, less_rfl, ren_valR, ren_cntF, renR_cntF, ren_ldr, renR_ldr, ren_rowL, renR_rowL]
              have pY : 0 < (Y).length := List.length_pos_iff.2 hY
              refine run_draw0 mixed (fun t => ?_)
              refine run_drawC (M := modeL) 1 14 rfl named hB' sL_ok [(31, rcIsE S Bk P [2, 3, 4, 5]), (36, rcIs S Bk P Y [16, 17, 18, 19, 23])] ⟨⟨isE_hc S Bk P hN (by omega), rfl, Nat.le_refl _⟩, ⟨is_hc S Bk P hN (by omega) Y iY _, rfl, Nat.le_refl _⟩, trivial⟩ rfl rfl rfl rfl rfl rfl ?_ (fun t => ?_)
              · simp [conj, less_rfl, SO.Live, ren_cntF, renR_cntF, ren_ldr, renR_ldr, ren_rowL, renR_rowL, hbk, hLe, pY]
              refine run_to hpin' [0, 1, 2, 3, 4, 5, 6, 7, 8, 9, 10, 11, 12, 13, 14, 15] rfl rfl ?_ (next t)
              clear next
              simp [conj, less_rfl, ren_valR, ren_cntF, renR_cntF, ren_ldr, renR_ldr, ren_rowL, renR_rowL]
            have pX : 0 < (X).length := List.length_pos_iff.2 hX
            by_cases hY : Y = []
            · subst hY
              refine run_draw0 mixed (fun t => ?_)
              refine run_drawC (M := modeL) 1 14 rfl named hB' sL_ok [(31, rcIs S Bk P X [2, 3, 4, 5, 22]), (36, rcIsE S Bk P [16, 17, 18, 19])] ⟨⟨is_hc S Bk P hN (by omega) X iX _, rfl, Nat.le_refl _⟩, ⟨isE_hc S Bk P hN (by omega), rfl, Nat.le_refl _⟩, trivial⟩ rfl rfl rfl rfl rfl rfl ?_ (fun t => ?_)
              · simp [conj, less_rfl, SO.Live, ren_cntF, renR_cntF, ren_ldr, renR_ldr, ren_rowL, renR_rowL, hbk, hLe, pX]
              refine run_to hpin' [0, 1, 2, 3, 4, 5, 6, 7, 8, 9, 10, 11, 12, 13, 14, 15] rfl rfl ?_ (next t)
              clear next
              simp [conj, less_rfl, ren_valR, ren_cntF, renR_cntF, ren_ldr, renR_ldr, ren_rowL, renR_rowL]
            have pY : 0 < (Y).length := List.length_pos_iff.2 hY
            refine run_draw0 mixed (fun t => ?_)
            refine run_drawC (M := modeL) 1 14 rfl named hB' sL_ok [(31, rcIs S Bk P X [2, 3, 4, 5, 22]), (36, rcIs S Bk P Y [16, 17, 18, 19, 23])] ⟨⟨is_hc S Bk P hN (by omega) X iX _, rfl, Nat.le_refl _⟩, ⟨is_hc S Bk P hN (by omega) Y iY _, rfl, Nat.le_refl _⟩, trivial⟩ rfl rfl rfl rfl rfl rfl ?_ (fun t => ?_)
            · simp [conj, less_rfl, SO.Live, ren_cntF, renR_cntF, ren_ldr, renR_ldr, ren_rowL, renR_rowL, hbk, hLe, pX, pY]
            refine run_to hpin' [0, 1, 2, 3, 4, 5, 6, 7, 8, 9, 10, 11, 12, 13, 14, 15] rfl rfl ?_ (next t)
            clear next
            simp [conj, less_rfl, ren_valR, ren_cntF, renR_cntF, ren_ldr, renR_ldr, ren_rowL, renR_rowL]
          have hl1 : 0 < L.length := List.length_pos_iff.2 hLe
          refine run_draw0 mixed (fun t => ?_)
          refine run_drawC (M := modeL) 1 15 rfl named hB' sL_ok [(48, rcOf S Bk P L blk 7)] ⟨⟨ofR_hc S Bk P hN L L.length (by omega) blk, rfl, by show 1 ≤ 2; omega⟩, trivial⟩ rfl rfl rfl rfl rfl rfl ?_ (fun t => ?_)
          · simp [conj, less_rfl, SO.Live, ren_ldr, renR_ldr, hl1]
          refine run_drawE rfl ?_
          refine goL hB' rfl rfl (by simp [conj]) ?_
          refine run_to (sl' := [(15, .ptr 2 0), (17, .ptr 6 0), (5, i64 blk), (6, i64 many), (14, .ff), (20, .clo (.func 38) [] [.ptr 8 0, .ptr 9 0]), (21, .clo (.func 38) [] [.ptr 12 0, .ptr 13 0]), (22, .ptr 16 0), (23, .ptr 20 0), (25, .ptr 21 0), (27, .tt), (28, .tt), (29, i64 (rdN L.length many : Nat)), (30, i64 (rdN (ofL L Bk P blk).length many : Nat))]) (rest' := [])
            (hp' := mpN S Bk P X 2 3 4 5 ++ [(6, .cells (rfL S Bk P 7 L.length .no) 38), (7, .row 0 L.length L.length 2 (ldr L) anyTy)] ++ prN (L.map (·.1)) (L.map (·.2)) 8 9 10 11 ++ prN ((ofL L Bk P blk).map (·.2)) ((ofL L Bk P blk).map (·.1)) 12 13 14 15 ++ mpN S Bk P Y 16 17 18 19 ++ [(20, .cells (rfL S Bk P 22 X.length .no) 38), (21, .cells (rfL S Bk P 23 Y.length .no) 38), (22, .row 0 X.length X.length 2 (ldr X) anyTy), (23, .row 0 Y.length Y.length 2 (ldr Y) anyTy)]) hpin' [0, 1, 2, 3, 4, 5, 6, 7, 8, 9, 10, 11, 12, 13, 14, 15, 16, 17, 18, 19, 20, 21, 22, 23] rfl rfl ?_ ?_
          · simp [conj, less_rfl, ren_valR, ren_cntF, renR_cntF, ren_ldr, renR_ldr, ren_rowL, renR_rowL, rdN_int] <;> omega
          by_cases hX : X = []
          · subst hX
            by_cases hY : Y = []
            · subst hY
              refine run_draw0 mixed (fun t => ?_)
              refine run_drawC (M := modeL) 1 14 rfl named hB' sL_ok [(31, rcIsE S Bk P [2, 3, 4, 5]), (36, rcIsE S Bk P [16, 17, 18, 19])] ⟨⟨isE_hc S Bk P hN (by omega), rfl, Nat.le_refl _⟩, ⟨isE_hc S Bk P hN (by omega), rfl, Nat.le_refl _⟩, trivial⟩ rfl rfl rfl rfl rfl rfl ?_ (fun t => ?_)
              · simp [conj, less_rfl, SO.Live, ren_cntF, renR_cntF, ren_ldr, renR_ldr, ren_rowL, renR_rowL, hbk, hl1]
              refine run_to hpin' [0, 1, 2, 3, 4, 5, 6, 7, 8, 9, 10, 11, 12, 13, 14, 15] rfl rfl ?_ (next t)
              clear next
              simp [conj, less_rfl, ren_valR, ren_cntF, renR_cntF, ren_ldr, renR_ldr, ren_rowL, renR_rowL]
            have pY : 0 < (Y).length := List.length_pos_iff.2 hY
            refine run_draw0 mixed (fun t => ?_)
            refine run_drawC (M := modeL) 1 14 rfl named hB' sL_ok [(31, rcIsE S Bk P [2, 3, 4, 5]), (36, rcIs S Bk P Y [16, 17, 18, 19, 23])] ⟨⟨isE_hc S Bk P hN (by omega), rfl, Nat.le_refl _⟩, ⟨is_hc S Bk P hN (by omega) Y iY _, rfl, Nat.le_refl _⟩, trivial⟩ rfl rfl rfl rfl rfl rfl ?_ (fun t => ?_)
            · simp [conj, less_rfl, SO.Live, ren_cntF, renR_cntF, ren_ldr, renR_ldr, ren_rowL, renR_rowL, hbk, hl1, pY]
            refine run_to hpin' [0, 1, 2, 3, 4, 5, 6, 7, 8, 9, 10, 11, 12, 13, 14, 15] rfl rfl ?_ (next t)
            clear next
            simp [conj, less_rfl, ren_valR, ren_cntF, renR_cntF, ren_ldr, renR_ldr, ren_rowL, renR_rowL]
          have pX : 0 < (X).length := List.length_pos_iff.2 hX
          by_cases hY : Y = []
          · subst hY
            refine run_draw0 mixed (fun t => ?_)
            refine run_drawC (M := modeL) 1 14 rfl named hB' sL_ok [(31, rcIs S Bk P X [2, 3, 4, 5, 22]), (36, rcIsE S Bk P [16, 17, 18, 19])] ⟨⟨is_hc S Bk P hN (by omega) X iX _, rfl, Nat.le_refl _⟩, ⟨isE_hc S Bk P hN (by omega), rfl, Nat.le_refl _⟩, trivial⟩ rfl rfl rfl rfl rfl rfl ?_ (fun t => ?_)
            · simp [conj, less_rfl, SO.Live, ren_cntF, renR_cntF, ren_ldr, renR_ldr, ren_rowL, renR_rowL, hbk, hl1, pX]
            refine run_to hpin' [0, 1, 2, 3, 4, 5, 6, 7, 8, 9, 10, 11, 12, 13, 14, 15] rfl rfl ?_ (next t)
            clear next
            simp [conj, less_rfl, ren_valR, ren_cntF, renR_cntF, ren_ldr, renR_ldr, ren_rowL, renR_rowL]
          have pY : 0 < (Y).length := List.length_pos_iff.2 hY
          refine run_draw0 mixed (fun t => ?_)
          refine run_drawC (M := modeL) 1 14 rfl named hB' sL_ok [(31, rcIs S Bk P X [2, 3, 4, 5, 22]), (36, rcIs S Bk P Y [16, 17, 18, 19, 23])] ⟨⟨is_hc S Bk P hN (by omega) X iX _, rfl, Nat.le_refl _⟩, ⟨is_hc S Bk P hN (by omega) Y iY _, rfl, Nat.le_refl _⟩, trivial⟩ rfl rfl rfl rfl rfl rfl ?_ (fun t => ?_)
          · simp [conj, less_rfl, SO.Live, ren_cntF, renR_cntF, ren_ldr, renR_ldr, ren_rowL, renR_rowL, hbk, hl1, pX, pY]
          refine run_to hpin' [0, 1, 2, 3, 4, 5, 6, 7, 8, 9, 10, 11, 12, 13, 14, 15] rfl rfl ?_ (next t)
          clear next
          simp [conj, less_rfl, ren_valR, ren_cntF, renR_cntF, ren_ldr, renR_ldr, ren_rowL, renR_rowL]
        | false =>
          refine ⟨show 2 ≤ 2 by omega, _, _, _, rfl, rfl, rfl, ?_⟩
          have hY := isNew_old hy.symm
          rw [hY] at apY iY
          clear hy hY
          generalize (appG S Bk P L L Eb).2 = eY at apY ⊢
          refine run_close (.inl rfl) ?_
          refine goL hB' rfl rfl (by simp [conj]) ?_
          refine run_to (sl' := [(15, .ptr 2 0), (17, .ptr 6 0), (11, .ptr 1 0), (5, i64 blk), (6, i64 many), (14, .ff), (20, .clo (.func 38) [] [.ptr 8 0, .ptr 9 0]), (21, .clo (.func 38) [] [.ptr 12 0, .ptr 13 0]), (22, .ptr 16 0), (23, .ptr 20 0), (24, i64 0), (25, .ptr 21 0), (26, i64 eY)]) (rest' := [])
            (hp' := (1, .cells [.val va, .val vb] 43) :: mpN S Bk P L 2 3 4 5 ++ [(6, .cells (rfL S Bk P 7 L.length .no) 38), (7, .row 0 L.length L.length 2 (ldr L) anyTy)] ++ prN (L.map (·.1)) (L.map (·.2)) 8 9 10 11 ++ prN ((ofL L Bk P blk).map (·.2)) ((ofL L Bk P blk).map (·.1)) 12 13 14 15 ++ mpN S Bk P L 16 17 18 19 ++ [(20, .cells (rfL S Bk P 22 X.length .no) 38), (21, .cells (rfL S Bk P 7 L.length .no) 38), (22, .row 0 X.length X.length 2 (ldr X) anyTy)]) hpin' [0, 1, 2, 3, 4, 5, 6, 7, 8, 9, 10, 11, 12, 13, 14, 15, 16, 17, 18, 19, 22, 24, 21, 25] rfl rfl ?_ ?_
          · simp [conj, less_rfl, ren_valR, ren_cntF, renR_cntF, ren_ldr, renR_ldr, ren_rowL, renR_rowL]
          refine run_draw0 mixed (fun t => ?_)
          refine run_drawK (M := modeL) (kn := K2) hKB 1 16 rfl named hB' sL_ok [(27, rcApV S Bk P L X 0 va [2, 3, 4, 5]), (28, rcNum 0), (34, rcApV S Bk P L L eY vb [16, 17, 18, 19]), (35, rcNum eY)] ⟨⟨apX, rfl, Nat.le_refl _⟩, ⟨hck_of_hc (num_hc _), rfl, Nat.le_refl _⟩, ⟨apY, rfl, Nat.le_refl _⟩, ⟨hck_of_hc (num_hc _), rfl, Nat.le_refl _⟩, trivial⟩ rfl rfl rfl rfl rfl rfl ?_ (fun t => ?_)
          · simp [conj, less_rfl, SO.Live, ren_cntF, renR_cntF, hbk]
          refine run_drawE rfl ?_
          refine goL hB' rfl rfl (by simp [conj]) ?_
          by_cases hLe : L = []
          · have hOE : ofL L Bk P blk = [] := by rw [hLe, ofL_nil]
            refine run_draw0 mixed (fun t => ?_)
            refine run_drawC (M := modeL) 1 15 rfl named hB' sL_ok [(48, rcOfE S Bk P blk)] ⟨⟨ofE_hc S Bk P hN blk, rfl, Nat.le_refl _⟩, trivial⟩ rfl rfl rfl rfl rfl rfl ?_ (fun t => ?_)
            · simp [conj, less_rfl, SO.Live, ren_ldr, renR_ldr, hLe]
            refine run_drawE rfl ?_
            refine goL hB' rfl rfl (by simp [conj]) ?_
            refine run_to (sl' := [(15, .ptr 2 0), (17, .ptr 6 0), (5, i64 blk), (6, i64 many), (14, .ff), (20, .clo (.func 38) [] [.ptr 8 0, .ptr 9 0]), (21, .clo (.func 38) [] [.ptr 12 0, .ptr 13 0]), (22, .ptr 16 0), (23, .ptr 20 0), (25, .ptr 21 0), (27, .tt), (28, .tt), (29, i64 (rdN L.length many : Nat)), (30, i64 (rdN (ofL L Bk P blk).length many : Nat))]) (rest' := [])
              (hp' := mpN S Bk P X 2 3 4 5 ++ [(6, .cells (rfL S Bk P 7 L.length .no) 38), (7, .row 0 L.length L.length 2 (ldr L) anyTy)] ++ prN (L.map (·.1)) (L.map (·.2)) 8 9 10 11 ++ prN ((ofL L Bk P blk).map (·.2)) ((ofL L Bk P blk).map (·.1)) 12 13 14 15 ++ mpN S Bk P L 16 17 18 19 ++ [(20, .cells (rfL S Bk P 22 X.length .no) 38), (21, .cells (rfL S Bk P 7 L.length .no) 38), (22, .row 0 X.length X.length 2 (ldr X) anyTy)]) hpin' [0, 1, 2, 3, 4, 5, 6, 7, 8, 9, 10, 11, 12, 13, 14, 15, 16, 17, 18, 19, 20, 21, 22, 23] rfl rfl ?_ ?_
            · simp [conj, less_rfl, ren_valR, ren_cntF, renR_cntF, ren_ldr, renR_ldr, ren_rowL, renR_rowL, rdN_int, hOE] <;> omega
            by_cases hX : X = []
            · subst hX
              refine run_draw0 mixed (fun t => ?_)
              refine run_drawC (M := modeL) 1 14 rfl named hB' sL_ok [(31, rcIsE S Bk P [2, 3, 4, 5]), (36, rcIsE S Bk P [16, 17, 18, 19])] ⟨⟨isE_hc S Bk P hN (by omega), rfl, Nat.le_refl _⟩, ⟨isE_hc S Bk P hN (by omega), rfl, Nat.le_refl _⟩, trivial⟩ rfl rfl rfl rfl rfl rfl ?_ (fun t => ?_)
              · simp [conj, less_rfl, SO.Live, ren_cntF, renR_cntF, ren_ldr, renR_ldr, ren_rowL, renR_rowL, hbk, hLe]
              refine run_to hpin' [0, 1, 2, 3, 4, 5, 6, 7, 8, 9, 10, 11, 12, 13, 14, 15] rfl rfl ?_ (next t)
              clear next
              simp [conj, less_rfl, ren_valR, ren_cntF, renR_cntF, ren_ldr, renR_ldr, ren_rowL, renR_rowL]
            have pX : 0 < (X).length := List.length_pos_iff.2 hX
            refine run_draw0 mixed (fun t => ?_)
            refine run_drawC (M := modeL) 1 14 rfl named hB' sL_ok [(31, rcIs S Bk P X [2, 3, 4, 5, 22]), (36, rcIsE S Bk P [16, 17, 18, 19])] ⟨⟨is_hc S Bk P hN (by omega) X iX _, rfl, Nat.le_refl _⟩, ⟨isE_hc S Bk P hN (by omega), rfl, Nat.le_refl _⟩, trivial⟩ rfl rfl rfl rfl rfl rfl ?_ (fun t => ?_)
            · simp [conj, less_rfl, SO.Live, ren_cntF, renR_cntF, ren_ldr, renR_ldr, ren_rowL, renR_rowL, hbk, hLe, pX]
            refine run_to hpin' [0, 1, 2, 3, 4, 5, 6, 7, 8, 9, 10, 11, 12, 13, 14, 15] rfl rfl ?_ (next t)
            clear next
            simp [conj, less_rfl, ren_valR, ren_cntF, renR_cntF, ren_ldr, renR_ldr, ren_rowL, renR_rowL]
          have hl1 : 0 < L.length := List.length_pos_iff.2 hLe
          refine run_draw0 mixed (fun t => ?_)
          refine run_drawC (M := modeL) 1 15 rfl named hB' sL_ok [(48, rcOf S Bk P L blk 7)] ⟨⟨ofR_hc S Bk P hN L L.length (by omega) blk, rfl, by show 1 ≤ 2; omega⟩, trivial⟩ rfl rfl rfl rfl rfl rfl ?_ (fun t => ?_)
          · simp [conj, less_rfl, SO.Live, ren_ldr, renR_ldr, hl1]
          refine run_drawE rfl ?_
          refine goL hB' rfl rfl (by simp [conj]) ?_
          refine run_to (sl' := [(15, .ptr 2 0), (17, .ptr 6 0), (5, i64 blk), (6, i64 many), (14, .ff), (20, .clo (.func 38) [] [.ptr 8 0, .ptr 9 0]), (21, .clo (.func 38) [] [.ptr 12 0, .ptr 13 0]), (22, .ptr 16 0), (23, .ptr 20 0), (25, .ptr 21 0), (27, .tt), (28, .tt), (29, i64 (rdN L.length many : Nat)), (30, i64 (rdN (ofL L Bk P blk).length many : Nat))]) (rest' := [])
            (hp' := mpN S Bk P X 2 3 4 5 ++ [(6, .cells (rfL S Bk P 7 L.length .no) 38), (7, .row 0 L.length L.length 2 (ldr L) anyTy)] ++ prN (L.map (·.1)) (L.map (·.2)) 8 9 10 11 ++ prN ((ofL L Bk P blk).map (·.2)) ((ofL L Bk P blk).map (·.1)) 12 13 14 15 ++ mpN S Bk P L 16 17 18 19 ++ [(20, .cells (rfL S Bk P 22 X.length .no) 38), (21, .cells (rfL S Bk P 7 L.length .no) 38), (22, .row 0 X.length X.length 2 (ldr X) anyTy)]) hpin' [0, 1, 2, 3, 4, 5, 6, 7, 8, 9, 10, 11, 12, 13, 14, 15, 16, 17, 18, 19, 20, 21, 22, 23] rfl rfl ?_ ?_
          · simp [conj, less_rfl, ren_valR, ren_cntF, renR_cntF, ren_ldr, renR_ldr, ren_rowL, renR_rowL, rdN_int] <;> omega
          by_cases hX : X = []
          · subst hX
            refine run_draw0 mixed (fun t => ?_)
            refine run_drawC (M := modeL) 1 14 rfl named hB' sL_ok [(31, rcIsE S Bk P [2, 3, 4, 5]), (36, rcIs S Bk P L [16, 17, 18, 19, 7])] ⟨⟨isE_hc S Bk P hN (by omega), rfl, Nat.le_refl _⟩, ⟨is_hc S Bk P hN (by omega) L hL _, rfl, Nat.le_refl _⟩, trivial⟩ rfl rfl rfl rfl rfl rfl ?_ (fun t => ?_)
            · simp [conj, less_rfl, SO.Live, ren_cntF, renR_cntF, ren_ldr, renR_ldr, ren_rowL, renR_rowL, hbk, hl1]
            refine run_to hpin' [0, 1, 2, 3, 4, 5, 6, 7, 8, 9, 10, 11, 12, 13, 14, 15] rfl rfl ?_ (next t)
            clear next
            simp [conj, less_rfl, ren_valR, ren_cntF, renR_cntF, ren_ldr, renR_ldr, ren_rowL, renR_rowL]
          have pX : 0 < (X).length := List.length_pos_iff.2 hX
          refine run_draw0 mixed (fun t => ?_)
          refine run_drawC (M := modeL) 1 14 rfl named hB' sL_ok [(31, rcIs S Bk P X [2, 3, 4, 5, 22]), (36, rcIs S Bk P L [16, 17, 18, 19, 7])] ⟨⟨is_hc S Bk P hN (by omega) X iX _, rfl, Nat.le_refl _⟩, ⟨is_hc S Bk P hN (by omega) L hL _, rfl, Nat.le_refl _⟩, trivial⟩ rfl rfl rfl rfl rfl rfl ?_ (fun t => ?_)
          · simp [conj, less_rfl, SO.Live, ren_cntF, renR_cntF, ren_ldr, renR_ldr, ren_rowL, renR_rowL, hbk, hl1, pX]
          refine run_to hpin' [0, 1, 2, 3, 4, 5, 6, 7, 8, 9, 10, 11, 12, 13, 14, 15] rfl rfl ?_ (next t)
          clear next
          simp [conj, less_rfl, ren_valR, ren_cntF, renR_cntF, ren_ldr, renR_ldr, ren_rowL, renR_rowL]
      | false =>
        refine ⟨show 2 ≤ 2 by omega, _, _, _, rfl, rfl, rfl, ?_⟩
        have hX := isNew_old hz.symm
        rw [hX] at apX iX
        clear hz hX
        generalize (appG S Bk P L L Ea).2 = eX at apX ⊢
        refine run_close (.inl rfl) ?_
        refine goL hB' rfl rfl (by simp [conj]) ?_
        refine run_open hK' 125 hb (by decide) rfl (fun offb => ?_)
        refine run_callC (applyR_hc S Bk P hN L hL L.length Eb offb Eb.length (by omega) (by omega)) named hB' [7, 22] rfl rfl rfl rfl (by simp [conj]) (by simp [conj, less_rfl, ren_ldr, renR_ldr]) ?_
        intro y hy
        cases y with
        | true =>
          refine ⟨show 2 ≤ 3 by omega, _, _, _, rfl, rfl, rfl, ?_⟩
          have hY := isNew_new hy.symm
          rw [hY] at apY
          clear hy hY
          generalize (appG S Bk P L L Eb).1 = Y at apY iY ⊢
          have eY : Int := 0
          refine run_close (.inl rfl) ?_
          refine goL hB' rfl rfl (by simp [conj]) ?_
          refine run_to (sl' := [(15, .ptr 2 0), (17, .ptr 6 0), (11, .ptr 1 0), (5, i64 blk), (6, i64 many), (14, .ff), (20, .clo (.func 38) [] [.ptr 8 0, .ptr 9 0]), (21, .clo (.func 38) [] [.ptr 12 0, .ptr 13 0]), (22, .ptr 16 0), (23, .ptr 20 0), (24, i64 eX), (25, .ptr 21 0), (26, i64 0)]) (rest' := [])
            (hp' := (1, .cells [.val va, .val vb] 43) :: mpN S Bk P L 2 3 4 5 ++ [(6, .cells (rfL S Bk P 7 L.length .no) 38), (7, .row 0 L.length L.length 2 (ldr L) anyTy)] ++ prN (L.map (·.1)) (L.map (·.2)) 8 9 10 11 ++ prN ((ofL L Bk P blk).map (·.2)) ((ofL L Bk P blk).map (·.1)) 12 13 14 15 ++ mpN S Bk P L 16 17 18 19 ++ [(20, .cells (rfL S Bk P 7 L.length .no) 38), (21, .cells (rfL S Bk P 23 Y.length .no) 38), (23, .row 0 Y.length Y.length 2 (ldr Y) anyTy)]) hpin' [0, 1, 2, 3, 4, 5, 6, 7, 8, 9, 10, 11, 12, 13, 14, 15, 16, 17, 18, 19, 21, 24, 25, 23] rfl rfl ?_ ?_
          · simp [conj, less_rfl, ren_valR, ren_cntF, renR_cntF, ren_ldr, renR_ldr, ren_rowL, renR_rowL]
          refine run_draw0 mixed (fun t => ?_)
          refine run_drawK (M := modeL) (kn := K2) hKB 1 16 rfl named hB' sL_ok [(27, rcApV S Bk P L L eX va [2, 3, 4, 5]), (28, rcNum eX), (34, rcApV S Bk P L Y 0 vb [16, 17, 18, 19]), (35, rcNum 0)] ⟨⟨apX, rfl, Nat.le_refl _⟩, ⟨hck_of_hc (num_hc _), rfl, Nat.le_refl _⟩, ⟨apY, rfl, Nat.le_refl _⟩, ⟨hck_of_hc (num_hc _), rfl, Nat.le_refl _⟩, trivial⟩ rfl rfl rfl rfl rfl rfl ?_ (fun t => ?_)
          · simp [conj, less_rfl, SO.Live, ren_cntF, renR_cntF, hbk]
          refine run_drawE rfl ?_
          refine goL hB' rfl rfl (by simp [conj]) ?_
          by_cases hLe : L = []
          · have hOE : ofL L Bk P blk = [] := by rw [hLe, ofL_nil]
            refine run_draw0 mixed (fun t => ?_)
            refine run_drawC (M := modeL) 1 15 rfl named hB' sL_ok [(48, rcOfE S Bk P blk)] ⟨⟨ofE_hc S Bk P hN blk, rfl, Nat.le_refl _⟩, trivial⟩ rfl rfl rfl rfl rfl rfl ?_ (fun t => ?_)
            · simp [conj, less_rfl, SO.Live, ren_ldr, renR_ldr, hLe]
            refine run_drawE rfl ?_
            refine goL hB' rfl rfl (by simp [conj]) ?_
            refine run_to (sl' := [(15, .ptr 2 0), (17, .ptr 6 0), (5, i64 blk), (6, i64 many), (14, .ff), (20, .clo (.func 38) [] [.ptr 8 0, .ptr 9 0]), (21, .clo (.func 38) [] [.ptr 12 0, .ptr 13 0]), (22, .ptr 16 0), (23, .ptr 20 0), (25, .ptr 21 0), (27, .tt), (28, .tt), (29, i64 (rdN L.length many : Nat)), (30, i64 (rdN (ofL L Bk P blk).length many : Nat))]) (rest' := [])
              (hp' := mpN S Bk P L 2 3 4 5 ++ [(6, .cells (rfL S Bk P 7 L.length .no) 38), (7, .row 0 L.length L.length 2 (ldr L) anyTy)] ++ prN (L.map (·.1)) (L.map (·.2)) 8 9 10 11 ++ prN ((ofL L Bk P blk).map (·.2)) ((ofL L Bk P blk).map (·.1)) 12 13 14 15 ++ mpN S Bk P Y 16 17 18 19 ++ [(20, .cells (rfL S Bk P 7 L.length .no) 38), (21, .cells (rfL S Bk P 23 Y.length .no) 38), (23, .row 0 Y.length Y.length 2 (ldr Y) anyTy)]) hpin' [0, 1, 2, 3, 4, 5, 6, 7, 8, 9, 10, 11, 12, 13, 14, 15, 16, 17, 18, 19, 20, 21, 22, 23] rfl rfl ?_ ?_
            · simp [conj, less_rfl, ren_valR, ren_cntF, renR_cntF, ren_ldr, renR_ldr, ren_rowL, renR_rowL, rdN_int, hOE] <;> omega
            by_cases hY : Y = []
            · subst hY
              refine run_draw0 mixed (fun t => ?_)
              refine run_drawC (M := modeL) 1 14 rfl named hB' sL_ok [(31, rcIsE S Bk P [2, 3, 4, 5]), (36, rcIsE S Bk P [16, 17, 18, 19])] ⟨⟨isE_hc S Bk P hN (by omega), rfl, Nat.le_refl _⟩, ⟨isE_hc S Bk P hN (by omega), rfl, Nat.le_refl _⟩, trivial⟩ rfl rfl rfl rfl rfl rfl ?_ (fun t => ?_)
              · simp [conj, less_rfl, SO.Live, ren_cntF, renR_cntF, ren_ldr, renR_ldr, ren_rowL, renR_rowL, hbk, hLe]
              refine run_to hpin' [0, 1, 2, 3, 4, 5, 6, 7, 8, 9, 10, 11, 12, 13, 14, 15] rfl rfl ?_ (next t)
              clear next
              simp [conj, less_rfl, ren_valR, ren_cntF, renR_cntF, ren_ldr, renR_ldr, ren_rowL, renR_rowL]
            have pY : 0 < (Y).length := List.length_pos_iff.2 hY
            refine run_draw0 mixed (fun t => ?_)
            refine run_drawC (M := modeL) 1 14 rfl named hB' sL_ok [(31, rcIsE S Bk P [2, 3, 4, 5]), (36, rcIs S Bk P Y [16, 17, 18, 19, 23])] ⟨⟨isE_hc S Bk P hN (by omega), rfl, Nat.le_refl _⟩, ⟨is_hc S Bk P hN (by omega) Y iY _, rfl, Nat.le_refl _⟩, trivial⟩ rfl rfl rfl rfl rfl rfl ?_ (fun t => ?_)
            · simp [conj, less_rfl, SO.Live, ren_cntF, renR_cntF, ren_ldr, renR_ldr, ren_rowL, renR_rowL, hbk, hLe, pY]
            refine run_to hpin' [0, 1, 2, 3, 4, 5, 6, 7, 8, 9, 10, 11, 12, 13, 14, 15] rfl rfl ?_ (next t)
            clear next
            simp [conj, less_rfl, ren_valR, ren_cntF, renR_cntF, ren_ldr, renR_ldr, ren_rowL, renR_rowL]
          have hl1 : 0 < L.length := List.length_pos_iff.2 hLe
          refine run_draw0 mixed (fun t => ?_)
          refine run_drawC (M := modeL) 1 15 rfl named hB' sL_ok [(48, rcOf S Bk P L blk 7)] ⟨⟨ofR_hc S Bk P hN L L.length (by omega) blk, rfl, by show 1 ≤ 2; omega⟩, trivial⟩ rfl rfl rfl rfl rfl rfl ?_ (fun t => ?_)
          · simp [conj, less_rfl, SO.Live, ren_ldr, renR_ldr, hl1]
          refine run_drawE rfl ?_
          refine goL hB' rfl rfl (by simp [conj]) ?_
          refine run_to (sl' := [(15, .ptr 2 0), (17, .ptr 6 0), (5, i64 blk), (6, i64 many), (14, .ff), (20, .clo (.func 38) [] [.ptr 8 0, .ptr 9 0]), (21, .clo (.func 38) [] [.ptr 12 0, .ptr 13 0]), (22, .ptr 16 0), (23, .ptr 20 0), (25, .ptr 21 0), (27, .tt), (28, .tt), (29, i64 (rdN L.length many : Nat)), (30, i64 (rdN (ofL L Bk P blk).length many : Nat))]) (rest' := [])
            (hp' := mpN S Bk P L 2 3 4 5 ++ [(6, .cells (rfL S Bk P 7 L.length .no) 38), (7, .row 0 L.length L.length 2 (ldr L) anyTy)] ++ prN (L.map (·.1)) (L.map (·.2)) 8 9 10 11 ++ prN ((ofL L Bk P blk).map (·.2)) ((ofL L Bk P blk).map (·.1)) 12 13 14 15 ++ mpN S Bk P Y 16 17 18 19 ++ [(20, .cells (rfL S Bk P 7 L.length .no) 38), (21, .cells (rfL S Bk P 23 Y.length .no) 38), (23, .row 0 Y.length Y.length 2 (ldr Y) anyTy)]) hpin' [0, 1, 2, 3, 4, 5, 6, 7, 8, 9, 10, 11, 12, 13, 14, 15, 16, 17, 18, 19, 20, 21, 22, 23] rfl rfl ?_ ?_
          · simp [conj, less_rfl, ren_valR, ren_cntF, renR_cntF, ren_ldr, renR_ldr, ren_rowL, renR_rowL, rdN_int] <;> omega
          by_cases hY : Y = []
          · subst hY
            refine run_draw0 mixed (fun t => ?_)
            refine run_drawC (M := modeL) 1 14 rfl named hB' sL_ok [(31, rcIs S Bk P L [2, 3, 4, 5, 7]), (36, rcIsE S Bk P [16, 17, 18, 19])] ⟨⟨is_hc S Bk P hN (by omega) L hL _, rfl, Nat.le_refl _⟩, ⟨isE_hc S Bk P hN (by omega), rfl, Nat.le_refl _⟩, trivial⟩ rfl rfl rfl rfl rfl rfl ?_ (fun t => ?_)
            · simp [conj, less_rfl, SO.Live, ren_cntF, renR_cntF, ren_ldr, renR_ldr, ren_rowL, renR_rowL, hbk, hl1]
            refine run_to hpin' [0, 1, 2, 3, 4, 5, 6, 7, 8, 9, 10, 11, 12, 13, 14, 15] rfl rfl ?_ (next t)
            clear next
            simp [conj, less_rfl, ren_valR, ren_cntF, renR_cntF, ren_ldr, renR_ldr, ren_rowL, renR_rowL]
          have pY : 0 < (Y).length := List.length_pos_iff.2 hY
          refine run_draw0 mixed (fun t => ?_)
          refine run_drawC (M := modeL) 1 14 rfl named hB' sL_ok [(31, rcIs S Bk P L [2, 3, 4, 5, 7]), (36, rcIs S Bk P Y [16, 17, 18, 19, 23])] ⟨⟨is_hc S Bk P hN (by omega) L hL _, rfl, Nat.le_refl _⟩, ⟨is_hc S Bk P hN (by omega) Y iY _, rfl, Nat.le_refl _⟩, trivial⟩ rfl rfl rfl rfl rfl rfl ?_ (fun t => ?_)
          · simp [conj, less_rfl, SO.Live, ren_cntF, renR_cntF, ren_ldr, renR_ldr, ren_rowL, renR_rowL, hbk, hl1, pY]
          refine run_to hpin' [0, 1, 2, 3, 4, 5, 6, 7, 8, 9, 10, 11, 12, 13, 14, 15] rfl rfl ?_ (next t)
          clear next
          simp [conj, less_rfl, ren_valR, ren_cntF, renR_cntF, ren_ldr, renR_ldr, ren_rowL, renR_rowL]
        | false =>
          refine ⟨show 2 ≤ 2 by omega, _, _, _, rfl, rfl, rfl, ?_⟩
          have hY := isNew_old hy.symm
          rw [hY] at apY iY
          clear hy hY
          generalize (appG S Bk P L L Eb).2 = eY at apY ⊢
          refine run_close (.inl rfl) ?_
          refine goL hB' rfl rfl (by simp [conj]) ?_
          refine run_to (sl' := [(15, .ptr 2 0), (17, .ptr 6 0), (11, .ptr 1 0), (5, i64 blk), (6, i64 many), (14, .ff), (20, .clo (.func 38) [] [.ptr 8 0, .ptr 9 0]), (21, .clo (.func 38) [] [.ptr 12 0, .ptr 13 0]), (22, .ptr 16 0), (23, .ptr 20 0), (24, i64 eX), (25, .ptr 21 0), (26, i64 eY)]) (rest' := [])
            (hp' := (1, .cells [.val va, .val vb] 43) :: mpN S Bk P L 2 3 4 5 ++ [(6, .cells (rfL S Bk P 7 L.length .no) 38), (7, .row 0 L.length L.length 2 (ldr L) anyTy)] ++ prN (L.map (·.1)) (L.map (·.2)) 8 9 10 11 ++ prN ((ofL L Bk P blk).map (·.2)) ((ofL L Bk P blk).map (·.1)) 12 13 14 15 ++ mpN S Bk P L 16 17 18 19 ++ [(20, .cells (rfL S Bk P 7 L.length .no) 38), (21, .cells (rfL S Bk P 7 L.length .no) 38)]) hpin' [0, 1, 2, 3, 4, 5, 6, 7, 8, 9, 10, 11, 12, 13, 14, 15, 16, 17, 18, 19, 21, 23, 24, 24] rfl rfl ?_ ?_
          · simp [conj, less_rfl, ren_valR, ren_cntF, renR_cntF, ren_ldr, renR_ldr, ren_rowL, renR_rowL]
          refine run_draw0 mixed (fun t => ?_)
          refine run_drawK (M := modeL) (kn := K2) hKB 1 16 rfl named hB' sL_ok [(27, rcApV S Bk P L L eX va [2, 3, 4, 5]), (28, rcNum eX), (34, rcApV S Bk P L L eY vb [16, 17, 18, 19]), (35, rcNum eY)] ⟨⟨apX, rfl, Nat.le_refl _⟩, ⟨hck_of_hc (num_hc _), rfl, Nat.le_refl _⟩, ⟨apY, rfl, Nat.le_refl _⟩, ⟨hck_of_hc (num_hc _), rfl, Nat.le_refl _⟩, trivial⟩ rfl rfl rfl rfl rfl rfl ?_ (fun t => ?_)
          · simp [conj, less_rfl, SO.Live, ren_cntF, renR_cntF, hbk]
          refine run_drawE rfl ?_
          refine goL hB' rfl rfl (by simp [conj]) ?_
          by_cases hLe : L = []
          · have hOE : ofL L Bk P blk = [] := by rw [hLe, ofL_nil]
            refine run_draw0 mixed (fun t => ?_)
            refine run_drawC (M := modeL) 1 15 rfl named hB' sL_ok [(48, rcOfE S Bk P blk)] ⟨⟨ofE_hc S Bk P hN blk, rfl, Nat.le_refl _⟩, trivial⟩ rfl rfl rfl rfl rfl rfl ?_ (fun t => ?_)
            · simp [conj, less_rfl, SO.Live, ren_ldr, renR_ldr, hLe]
            refine run_drawE rfl ?_
            refine goL hB' rfl rfl (by simp [conj]) ?_
            refine run_to (sl' := [(15, .ptr 2 0), (17, .ptr 6 0), (5, i64 blk), (6, i64 many), (14, .ff), (20, .clo (.func 38) [] [.ptr 8 0, .ptr 9 0]), (21, .clo (.func 38) [] [.ptr 12 0, .ptr 13 0]), (22, .ptr 16 0), (23, .ptr 20 0), (25, .ptr 21 0), (27, .tt), (28, .tt), (29, i64 (rdN L.length many : Nat)), (30, i64 (rdN (ofL L Bk P blk).length many : Nat))]) (rest' := [])
              (hp' := mpN S Bk P L 2 3 4 5 ++ [(6, .cells (rfL S Bk P 7 L.length .no) 38), (7, .row 0 L.length L.length 2 (ldr L) anyTy)] ++ prN (L.map (·.1)) (L.map (·.2)) 8 9 10 11 ++ prN ((ofL L Bk P blk).map (·.2)) ((ofL L Bk P blk).map (·.1)) 12 13 14 15 ++ mpN S Bk P L 16 17 18 19 ++ [(20, .cells (rfL S Bk P 7 L.length .no) 38), (21, .cells (rfL S Bk P 7 L.length .no) 38)]) hpin' [0, 1, 2, 3, 4, 5, 6, 7, 8, 9, 10, 11, 12, 13, 14, 15, 16, 17, 18, 19, 20, 21, 22, 23] rfl rfl ?_ ?_
            · simp [conj, less_rfl, ren_valR, ren_cntF, renR_cntF, ren_ldr, renR_ldr, ren_rowL, renR_rowL, rdN_int, hOE] <;> omega
            refine run_draw0 mixed (fun t => ?_)
            refine run_drawC (M := modeL) 1 14 rfl named hB' sL_ok [(31, rcIsE S Bk P [2, 3, 4, 5]), (36, rcIsE S Bk P [16, 17, 18, 19])] ⟨⟨isE_hc S Bk P hN (by omega), rfl, Nat.le_refl _⟩, ⟨isE_hc S Bk P hN (by omega), rfl, Nat.le_refl _⟩, trivial⟩ rfl rfl rfl rfl rfl rfl ?_ (fun t => ?_)
            · simp [conj, less_rfl, SO.Live, ren_cntF, renR_cntF, ren_ldr, renR_ldr, ren_rowL, renR_rowL, hbk, hLe]
            refine run_to hpin' [0, 1, 2, 3, 4, 5, 6, 7, 8, 9, 10, 11, 12, 13, 14, 15] rfl rfl ?_ (next t)
            clear next
            simp [conj, less_rfl, ren_valR, ren_cntF, renR_cntF, ren_ldr, renR_ldr, ren_rowL, renR_rowL]
          have hl1 : 0 < L.length := List.length_pos_iff.2 hLe
          refine run_draw0 mixed (fun t => ?_)
          refine run_drawC (M := modeL) 1 15 rfl named hB' sL_ok [(48, rcOf S Bk P L blk 7)] ⟨⟨ofR_hc S Bk P hN L L.length (by omega) blk, rfl, by show 1 ≤ 2; omega⟩, trivial⟩ rfl rfl rfl rfl rfl rfl ?_ (fun t => ?_)
          · simp [conj, less_rfl, SO.Live, ren_ldr, renR_ldr, hl1]
          refine run_drawE rfl ?_
          refine goL hB' rfl rfl (by simp [conj]) ?_
          refine run_to (sl' := [(15, .ptr 2 0), (17, .ptr 6 0), (5, i64 blk), (6, i64 many), (14, .ff), (20, .clo (.func 38) [] [.ptr 8 0, .ptr 9 0]), (21, .clo (.func 38) [] [.ptr 12 0, .ptr 13 0]), (22, .ptr 16 0), (23, .ptr 20 0), (25, .ptr 21 0), (27, .tt), (28, .tt), (29, i64 (rdN L.length many : Nat)), (30, i64 (rdN (ofL L Bk P blk).length many : Nat))]) (rest' := [])
            (hp' := mpN S Bk P L 2 3 4 5 ++ [(6, .cells (rfL S Bk P 7 L.length .no) 38), (7, .row 0 L.length L.length 2 (ldr L) anyTy)] ++ prN (L.map (·.1)) (L.map (·.2)) 8 9 10 11 ++ prN ((ofL L Bk P blk).map (·.2)) ((ofL L Bk P blk).map (·.1)) 12 13 14 15 ++ mpN S Bk P L 16 17 18 19 ++ [(20, .cells (rfL S Bk P 7 L.length .no) 38), (21, .cells (rfL S Bk P 7 L.length .no) 38)]) hpin' [0, 1, 2, 3, 4, 5, 6, 7, 8, 9, 10, 11, 12, 13, 14, 15, 16, 17, 18, 19, 20, 21, 22, 23] rfl rfl ?_ ?_
          · simp [conj, less_rfl, ren_valR, ren_cntF, renR_cntF, ren_ldr, renR_ldr, ren_rowL, renR_rowL, rdN_int] <;> omega
          refine run_draw0 mixed (fun t => ?_)
          refine run_drawC (M := modeL) 1 14 rfl named hB' sL_ok [(31, rcIs S Bk P L [2, 3, 4, 5, 7]), (36, rcIs S Bk P L [16, 17, 18, 19, 7])] ⟨⟨is_hc S Bk P hN (by omega) L hL _, rfl, Nat.le_refl _⟩, ⟨is_hc S Bk P hN (by omega) L hL _, rfl, Nat.le_refl _⟩, trivial⟩ rfl rfl rfl rfl rfl rfl ?_ (fun t => ?_)
          · simp [conj, less_rfl, SO.Live, ren_cntF, renR_cntF, ren_ldr, renR_ldr, ren_rowL, renR_rowL, hbk, hl1]
          refine run_to hpin' [0, 1, 2, 3, 4, 5, 6, 7, 8, 9, 10, 11, 12, 13, 14, 15] rfl rfl ?_ (next t)
          clear next
          simp [conj, less_rfl, ren_valR, ren_cntF, renR_cntF, ren_ldr, renR_ldr, ren_rowL, renR_rowL]
    · intro t
      by_cases hLe : L = []
      · subst hLe
        refine run_drawC (M := modeL) 1 10 rfl named hB' sL_ok [(19, rcRd0 true many [8, 9]), (24, rcSm0 S 2)] ⟨⟨read0_hc true many, rfl, Nat.le_refl _⟩, ⟨same0_hc S, rfl, Nat.le_refl _⟩, trivial⟩ rfl rfl rfl rfl rfl rfl ?_ (fun t => ?_)
        · simp [conj, less_rfl, SO.Live, ren_cntF, renR_cntF, ren_ldr, renR_ldr, ren_rowL, renR_rowL, isFn45, ofL_nil, rdN0]
        refine run_drawC (M := modeL) 1 11 rfl named hB' sL_ok [(29, rcRd0 false many [12, 13]), (32, rcOfE S Bk P blk), (35, rcSm0 S 2)] ⟨⟨read0_hc false many, rfl, Nat.le_refl _⟩, ⟨ofE_hc S Bk P hN blk, rfl, Nat.le_refl _⟩, ⟨same0_hc S, rfl, Nat.le_refl _⟩, trivial⟩ rfl rfl rfl rfl rfl rfl ?_ (fun t => ?_)
        · simp [conj, less_rfl, SO.Live, ren_cntF, renR_cntF, ren_ldr, renR_ldr, ren_rowL, renR_rowL, isFn45, ofL_nil, rdN0]
        refine run_drawC (M := modeL) 1 7 rfl named hB' sL_ok [(39, rcRd0 true 1073741824 [8, 9]), (42, rcSm0 S 2)] ⟨⟨read0_hc true 1073741824, rfl, Nat.le_refl _⟩, ⟨same0_hc S, rfl, Nat.le_refl _⟩, trivial⟩ rfl rfl rfl rfl rfl rfl ?_ (fun t => ?_)
        · simp [conj, less_rfl, SO.Live, ren_cntF, renR_cntF, ren_ldr, renR_ldr, ren_rowL, renR_rowL, isFn45, ofL_nil, rdN0]
        refine run_drawC (M := modeL) 1 4 rfl named hB' sL_ok [] trivial rfl rfl rfl rfl rfl rfl (by simp [conj]) (fun t => ?_)
        refine run_drawE rfl ?_
        refine goL hB' rfl rfl (by simp [conj]) ?_
        exact run_retF hF' hpin' () trivial [0] rfl rfl (by simp [conj]) rfl (by simp [conj, ren_valR, less_rfl])
      have hl1 : 0 < L.length := List.length_pos_iff.2 hLe
      have hrd : rdN L.length 1073741824 = L.length := by unfold rdN; rw [if_neg (by decide)]; omega
      have hol := ofL_len S Bk P hN L blk
      by_cases hO : ofL L Bk P blk = []
      · refine run_drawC (M := modeL) 1 10 rfl named hB' sL_ok [(19, rcRd true (L.map (fun x : Int × Int => x.1)) (L.map (fun x : Int × Int => x.2)) L many [8, 9, 10, 11]), (24, rcSmT L (rdN L.length many) [19, 7])] ⟨⟨read_hc true (L.map (fun x : Int × Int => x.1)) (L.map (fun x : Int × Int => x.2)) L (rdOk_t L) (by omega) many, rfl, by show 4 ≤ 5; omega⟩, ⟨sameT_hc L _ (rdN_le _ _) (by omega), rfl, Nat.le_refl _⟩, trivial⟩ rfl rfl rfl rfl rfl rfl ?_ (fun t => ?_)
        · simp [conj, less_rfl, SO.Live, ren_cntF, renR_cntF, ren_ldr, renR_ldr, ren_rowL, renR_rowL, isFn45, hl1, hrd, rdN_pos hl1, rdN_le, hO, rdN0]
        refine run_drawC (M := modeL) 1 11 rfl named hB' sL_ok [(29, rcRd0 false many [12, 13]), (32, rcOf S Bk P L blk 7), (35, rcSm0 S 2)] ⟨⟨read0_hc false many, rfl, Nat.le_refl _⟩, ⟨ofR_hc S Bk P hN L L.length (by omega) blk, rfl, by show 1 ≤ 2; omega⟩, ⟨same0_hc S, rfl, Nat.le_refl _⟩, trivial⟩ rfl rfl rfl rfl rfl rfl ?_ (fun t => ?_)
        · simp [conj, less_rfl, SO.Live, ren_cntF, renR_cntF, ren_ldr, renR_ldr, ren_rowL, renR_rowL, isFn45, hl1, hrd, rdN_pos hl1, rdN_le, hO, rdN0]
        refine run_drawC (M := modeL) 1 7 rfl named hB' sL_ok [(39, rcRd true (L.map (fun x : Int × Int => x.1)) (L.map (fun x : Int × Int => x.2)) L 1073741824 [8, 9, 10, 11]), (42, rcSmT L L.length [39, 7])] ⟨⟨read_hc true (L.map (fun x : Int × Int => x.1)) (L.map (fun x : Int × Int => x.2)) L (rdOk_t L) (by omega) 1073741824, rfl, by show 4 ≤ 5; omega⟩, ⟨sameT_hc L _ (Nat.le_refl _) (by omega), rfl, Nat.le_refl _⟩, trivial⟩ rfl rfl rfl rfl rfl rfl ?_ (fun t => ?_)
        · simp [conj, less_rfl, SO.Live, ren_cntF, renR_cntF, ren_ldr, renR_ldr, ren_rowL, renR_rowL, isFn45, hl1, hrd, rdN_pos hl1, rdN_le, hO, rdN0]
        refine run_drawC (M := modeL) 1 4 rfl named hB' sL_ok [] trivial rfl rfl rfl rfl rfl rfl (by simp [conj]) (fun t => ?_)
        refine run_drawE rfl ?_
        refine goL hB' rfl rfl (by simp [conj]) ?_
        exact run_retF hF' hpin' () trivial [0] rfl rfl (by simp [conj]) rfl (by simp [conj, ren_valR, less_rfl])
      have pO : 0 < (ofL L Bk P blk).length := List.length_pos_iff.2 hO
      refine run_drawC (M := modeL) 1 10 rfl named hB' sL_ok [(19, rcRd true (L.map (fun x : Int × Int => x.1)) (L.map (fun x : Int × Int => x.2)) L many [8, 9, 10, 11]), (24, rcSmT L (rdN L.length many) [19, 7])] ⟨⟨read_hc true (L.map (fun x : Int × Int => x.1)) (L.map (fun x : Int × Int => x.2)) L (rdOk_t L) (by omega) many, rfl, by show 4 ≤ 5; omega⟩, ⟨sameT_hc L _ (rdN_le _ _) (by omega), rfl, Nat.le_refl _⟩, trivial⟩ rfl rfl rfl rfl rfl rfl ?_ (fun t => ?_)
      · simp [conj, less_rfl, SO.Live, ren_cntF, renR_cntF, ren_ldr, renR_ldr, ren_rowL, renR_rowL, isFn45, hl1, hrd, rdN_pos hl1, rdN_le, pO, rdN_pos pO]
      refine run_drawC (M := modeL) 1 11 rfl named hB' sL_ok [(29, rcRd false ((ofL L Bk P blk).map (fun x : Int × Int => x.2)) ((ofL L Bk P blk).map (fun x : Int × Int => x.1)) (ofL L Bk P blk) many [12, 13, 14, 15]), (32, rcOf S Bk P L blk 7), (35, rcSmT (ofL L Bk P blk) (rdN (ofL L Bk P blk).length many) [29, 32])] ⟨⟨read_hc false ((ofL L Bk P blk).map (fun x : Int × Int => x.2)) ((ofL L Bk P blk).map (fun x : Int × Int => x.1)) (ofL L Bk P blk) (rdOk_f _) (by omega) many, rfl, by show 4 ≤ 5; omega⟩, ⟨ofR_hc S Bk P hN L L.length (by omega) blk, rfl, by show 1 ≤ 2; omega⟩, ⟨sameT_hc (ofL L Bk P blk) _ (rdN_le _ _) (by omega), rfl, Nat.le_refl _⟩, trivial⟩ rfl rfl rfl rfl rfl rfl ?_ (fun t => ?_)
      · simp [conj, less_rfl, SO.Live, ren_cntF, renR_cntF, ren_ldr, renR_ldr, ren_rowL, renR_rowL, isFn45, hl1, hrd, rdN_pos hl1, rdN_le, pO, rdN_pos pO]
      refine run_drawC (M := modeL) 1 7 rfl named hB' sL_ok [(39, rcRd true (L.map (fun x : Int × Int => x.1)) (L.map (fun x : Int × Int => x.2)) L 1073741824 [8, 9, 10, 11]), (42, rcSmT L L.length [39, 7])] ⟨⟨read_hc true (L.map (fun x : Int × Int => x.1)) (L.map (fun x : Int × Int => x.2)) L (rdOk_t L) (by omega) 1073741824, rfl, by show 4 ≤ 5; omega⟩, ⟨sameT_hc L _ (Nat.le_refl _) (by omega), rfl, Nat.le_refl _⟩, trivial⟩ rfl rfl rfl rfl rfl rfl ?_ (fun t => ?_)
      · simp [conj, less_rfl, SO.Live, ren_cntF, renR_cntF, ren_ldr, renR_ldr, ren_rowL, renR_rowL, isFn45, hl1, hrd, rdN_pos hl1, rdN_le, pO, rdN_pos pO]
      refine run_drawC (M := modeL) 1 4 rfl named hB' sL_ok [] trivial rfl rfl rfl rfl rfl rfl (by simp [conj]) (fun t => ?_)
      refine run_drawE rfl ?_
      refine goL hB' rfl rfl (by simp [conj]) ?_
      exact run_retF hF' hpin' () trivial [0] rfl rfl (by simp [conj]) rfl (by simp [conj, ren_valR, less_rfl])
end Sx
