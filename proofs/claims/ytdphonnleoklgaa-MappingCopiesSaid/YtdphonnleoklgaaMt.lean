/- What MappingPlays computes: true. Conditions: as each theorem says. -/
import Derived.Test.YtdphonnleoklgaaMk
import Derived.Test.YtdphonnleoklgaaMq
import Derived.Test.YtdphonnleoklgaaMy
set_option linter.unusedSimpArgs false
set_option linter.unusedVariables false
namespace Sx
open Go Go.Proofs
set_option maxRecDepth 100000
def rcApN (S Bk P : Int) (L es : Ld) (cap : Nat) (v : Value) (a : Nat) : RC := ⟨16, [refM S Bk P 0 L.length .no, .val v], [], [(0, .row 0 L.length cap 2 (ldr L) anyTy)], 1, .tup [refM S Bk P 1 (appG S Bk P L L es).1.length .own, i64 0], [(1, .row 0 (appG S Bk P L L es).1.length (appG S Bk P L L es).1.length 2 (ldr (appG S Bk P L L es).1) 54)], 2, [a]⟩
def rcApO (S Bk P : Int) (L es : Ld) (cap : Nat) (v : Value) (a : Nat) : RC := ⟨16, [refM S Bk P 0 L.length .no, .val v], [], [(0, .row 0 L.length cap 2 (ldr L) anyTy)], 1, .tup [refM S Bk P 0 L.length .no, i64 (appG S Bk P L L es).2], [], 1, [a]⟩
def rcApN0 (S Bk P : Int) (es : Ld) (v : Value) : RC := ⟨16, [refM S Bk P 0 0 .no, .val v], [], [], 0, .tup [refM S Bk P 0 (appG S Bk P [] [] es).1.length .own, i64 0], [(0, .row 0 (appG S Bk P [] [] es).1.length (appG S Bk P [] [] es).1.length 2 (ldr (appG S Bk P [] [] es).1) 54)], 1, []⟩
def rcApO0 (S Bk P : Int) (es : Ld) (v : Value) : RC := ⟨16, [refM S Bk P 0 0 .no, .val v], [], [], 0, .tup [refM S Bk P 0 0 .no, i64 (appG S Bk P [] [] es).2], [], 0, []⟩
theorem appG_err {S Bk P : Int} {L0 : Ld} : ∀ (es L : Ld), (appG S Bk P L0 L es).2 ≠ 0 → (appG S Bk P L0 L es).1 = L0
  | [], L, h => absurd rfl h
  | x :: r, L, h => by
    simp only [appG] at h ⊢
    split
    · rename_i hf
      rw [if_pos hf] at h
      split
      · rfl
      · rename_i hb
        rw [if_neg hb] at h
        exact appG_err r _ h
    · rfl
theorem isNew_old {S Bk P : Int} {L es : Ld} (h : isNew S Bk P L es = false) : (appG S Bk P L L es).1 = L := by
  unfold isNew at h
  simp at h
  by_cases he : es = []
  · subst he; rfl
  · exact appG_err es L (h he)
theorem isNew_new {S Bk P : Int} {L es : Ld} (h : isNew S Bk P L es = true) : (appG S Bk P L L es).2 = 0 := by
  unfold isNew at h; simp at h; exact h.2
set_option maxHeartbeats 8000000 in
theorem plays_hc (K : Kn) (off m : Nat) (V : Nat → Value) (E : Nat → Ld) (hE : KIn K m V E) (S Bk P : Int) :
    HCX Try.prog K M0 4 [i64 S, i64 Bk, i64 P, .sq 0 off 0 1 m .no] [] (inRo off m V) 1 (fun (_ : Unit) _ => True) (fun _ => ⟨.tt, [], 1⟩) := by
  refine hcx_of_run Try.func4 rfl (fun B hB hK hpin => ?_)
  have hF : Fz B K M0 B K := .refl hB hK
  refine goL hB rfl rfl (by simp [conj]) ?_
  cases hN : okN S Bk P with
  | false =>
    refine run_callC (new_bad S Bk P hN) named hB [] rfl rfl rfl rfl (by simp [conj]) (by simp [conj, less_rfl]) ?_
    rintro ⟨⟩ _
    refine ⟨show 0 ≤ 0 by omega, _, _, _, rfl, rfl, rfl, ?_⟩
    refine goL hB rfl rfl (by simp [conj]) ?_
    refine run_condT rfl (by unfold okN at hN; exact Bool.not_eq_false' .. |>.mp hN) ?_
    refine goL hB rfl rfl (by simp [conj, isBo4, isPt25]) ?_
    refine run_condF rfl rfl ?_
    refine goLY hB [(4, 42)] 300 rfl (by simp [conj]) ?_
    by_cases q1 : 30 < S
    · refine run_tt (by simpa using q1) ?_
      refine goLY hB [] 300 rfl (by simp [conj]) ?_
      exact run_retF hF hpin () trivial [0] rfl rfl (by simp [conj]) rfl (by simp [conj, ren_valR, less_rfl])
    refine run_ff (by simpa using q1) ?_
    refine goLY hB [(4, 45)] 300 rfl (by simp [conj]) ?_
    by_cases q2 : 8 < Bk
    · refine run_tt (by simpa using q2) ?_
      refine goLY hB [] 300 rfl (by simp [conj]) ?_
      exact run_retF hF hpin () trivial [0] rfl rfl (by simp [conj]) rfl (by simp [conj, ren_valR, less_rfl])
    refine run_ff (by simpa using q2) ?_
    refine goLY hB [(4, 49)] 300 rfl (by simp [conj]) ?_
    by_cases q3 : 8 < P
    · refine run_tt (by simpa using q3) ?_
      refine goLY hB [] 300 rfl (by simp [conj]) ?_
      exact run_retF hF hpin () trivial [0] rfl rfl (by simp [conj]) rfl (by simp [conj, ren_valR, less_rfl])
    refine run_ff (by simpa using q3) ?_
    refine goLY hB [] 300 rfl (by simp [conj]) ?_
    refine run_callX (few_hc K off m V E hE 30 (by decide)) named hB hK (fun _ h => h.elim) (.inr fun _ h => h) [0] rfl rfl rfl rfl (by simp [conj]) (by simp [conj, less_rfl, ren_valR]) ?_
    rintro ⟨⟩ B' K' rfl hF' hp'
    refine ⟨show 1 ≤ 1 by omega, _, _, _, rfl, rfl, rfl, ?_⟩
    have hpin' := hpin.fz hF' hp'
    have hB' := hF'.ok
    have hK' := hF'.le
    cases hfew : fewB m E 30 with
    | false =>
      refine goLY hB' [] 300 rfl (by simp [conj]) ?_
      exact run_retF hF' hpin' () trivial [0] rfl rfl (by simp [conj]) rfl (by simp [conj, ren_valR, less_rfl])
    | true =>
    refine goL hB' rfl rfl (by simp [conj]) ?_
    refine run_condF rfl rfl ?_
    refine goL hB' rfl rfl (by simp [conj]) ?_
    refine run_loop ?_
    refine goL hB' rfl rfl (by simp [conj]) ?_
    refine run_condF rfl (by simp) ?_
    refine goL hB' rfl rfl (by simp [conj]) ?_
    exact run_retF hF' hpin' () trivial [0] rfl rfl (by simp [conj]) rfl (by simp [conj, ren_valR, less_rfl])
  | true =>
  have hN' := okN_iff.1 hN
  refine run_callC (new_ok S Bk P hN) named hB [] rfl rfl rfl rfl (by simp [conj]) (by simp [conj, less_rfl]) ?_
  rintro ⟨⟩ _
  refine ⟨show 0 ≤ 4 by omega, _, _, _, rfl, rfl, rfl, ?_⟩
  refine goL hB rfl rfl (by simp [conj]) ?_
  refine run_condF rfl (by simpa [okN] using hN) ?_
  refine goL hB rfl rfl (by simp [conj, isBo4, isPt25]) ?_
  refine run_condF rfl rfl ?_
  refine goLY hB [(4, 42)] 300 rfl (by simp [conj]) ?_
  by_cases q1 : 30 < S
  · refine run_tt (by simpa using q1) ?_
    refine goLY hB [] 300 rfl (by simp [conj]) ?_
    exact run_retF hF hpin () trivial [0] rfl rfl (by simp [conj]) rfl (by simp [conj, ren_valR, less_rfl])
  refine run_ff (by simpa using q1) ?_
  refine goLY hB [(4, 45)] 300 rfl (by simp [conj]) ?_
  by_cases q2 : 8 < Bk
  · refine run_tt (by simpa using q2) ?_
    refine goLY hB [] 300 rfl (by simp [conj]) ?_
    exact run_retF hF hpin () trivial [0] rfl rfl (by simp [conj]) rfl (by simp [conj, ren_valR, less_rfl])
  refine run_ff (by simpa using q2) ?_
  refine goLY hB [(4, 49)] 300 rfl (by simp [conj]) ?_
  by_cases q3 : 8 < P
  · refine run_tt (by simpa using q3) ?_
    refine goLY hB [] 300 rfl (by simp [conj]) ?_
    exact run_retF hF hpin () trivial [0] rfl rfl (by simp [conj]) rfl (by simp [conj, ren_valR, less_rfl])
  refine run_ff (by simpa using q3) ?_
  refine goLY hB [] 300 rfl (by simp [conj]) ?_
  refine run_callX (few_hc K off m V E hE 30 (by decide)) named hB hK (fun _ h => h.elim) (.inr fun _ h => h) [0] rfl rfl rfl rfl (by simp [conj]) (by simp [conj, less_rfl, ren_valR]) ?_
  rintro ⟨⟩ B' K' rfl hF' hp'
  refine ⟨show 1 ≤ 1 by omega, _, _, _, rfl, rfl, rfl, ?_⟩
  have hpin' := hpin.fz hF' hp'
  have hB' := hF'.ok
  have hK' := hF'.le
  cases hfew : fewB m E 30 with
  | false =>
    refine goLY hB' [] 300 rfl (by simp [conj]) ?_
    exact run_retF hF' hpin' () trivial [0] rfl rfl (by simp [conj]) rfl (by simp [conj, ren_valR, less_rfl])
  | true =>
  obtain ⟨m1, m2⟩ := fewB_iff.1 hfew
  refine goL hB' rfl rfl (by simp [conj]) ?_
  refine run_condF rfl rfl ?_
  refine goL hB' rfl rfl (by simp [conj]) ?_
  refine run_loop ?_
  refine run_inv (ι := Nat × Ld) hpin' (fun z => z.1 ≤ m ∧ MInv S (Bk * P) z.2) (fun z => m - z.1)
    (fun z => [(13, i64 z.1), (3, .sq 0 off 0 1 m .no), (9, .ptr 1 0), (11, .ptr 5 0), (12, i64 0), (8, .ff)]) (fun _ => [])
    (fun z => mpN S Bk P z.2 1 2 3 4 ++ [(5, .cells (rfL S Bk P 6 z.2.length .no) 38), (6, .row 0 z.2.length z.2.length 2 (ldr z.2) anyTy)]) 7 (0, []) ⟨Nat.zero_le _, MInv.nil _ _⟩
    [0, 1, 2, 3, 4, 6, 7] rfl rfl (by simp [conj, less_rfl, ren_valR, ren_cntF, renR_cntF]) ?_
  rintro ⟨i, L⟩ ⟨h1, hL⟩ ih
  refine goL hB' rfl rfl (by simp [conj]) ?_
  refine run_cond rfl (fun h => ?_) (fun h => ?_)
  · have hi : i < m := by simpa using h
    refine goL hB' rfl rfl (by simp [conj, hi]) ?_
    have hFi := hE i hi
    have hEi := m2 i hi
    have hL2 := appG_inv hL (E i) L hL
    have ih := fun L2 (hL2 : MInv S (Bk * P) L2) => ih (i + 1, L2) ⟨by show i + 1 ≤ m; omega, hL2⟩ (by show m - (i + 1) < m - i; omega)
    have ih := ih _ hL2
    have hKB := hF'.le
    apply run_share (B := B') (fun N TD => ⟨⟨fid 4, N, [(81, .val (V i)), (77, .ptr 1 0), (15, i64 (appG S Bk P L L (E i)).2), (13, i64 i), (3, .sq 0 off 0 1 m .no), (9, .ptr 1 0), (11, .ptr 5 0), (12, i64 0), (8, .ff)], TD⟩, [],
      mpN S Bk P L 1 2 3 4 ++ [(5, .cells (rfL S Bk P 6 (appG S Bk P L L (E i)).1.length .no) 38), (6, .row 0 (appG S Bk P L L (E i)).1.length (appG S Bk P L L (E i)).1.length 2 (ldr (appG S Bk P L L (E i)).1) anyTy)], 7⟩)
    · intro next
      refine run_draw0 mixed (fun t => ?_)
      cases hz : isNew S Bk P L (E i) with
      | true =>
        have he2 := isNew_new hz
        rw [he2] at next
        by_cases hLe : L = []
        · subst hLe
          refine run_drawK (M := modeL) (kn := K') hKB 1 12 rfl named hB' sL_ok [(12, rcApN0 S Bk P (E i) (V i))] ⟨⟨applyR0_new K' S Bk P hN (E i) hFi (by omega) (by omega) hz, rfl, by show 0 ≤ 1; omega⟩, trivial⟩ rfl rfl rfl rfl rfl rfl ?_ (fun t => ?_)
          · simp [conj, hi]
          refine run_drawE rfl ?_
          refine goL hB' rfl rfl (by simp [conj, hi]) ?_
          refine run_to hpin' [0, 1, 2, 3, 4, 5, 12] rfl rfl ?_ next
          simp [conj, less_rfl, ren_valR, ren_cntF, renR_cntF, ren_ldr, renR_ldr]
        · have hl1 : 0 < L.length := List.length_pos_iff.2 hLe
          refine run_drawK (M := modeL) (kn := K') hKB 1 12 rfl named hB' sL_ok [(12, rcApN S Bk P L (E i) L.length (V i) 6)] ⟨⟨applyR_new K' S Bk P hN L hL L.length (E i) hFi (by omega) (by omega) hz, rfl, by show 1 ≤ 2; omega⟩, trivial⟩ rfl rfl rfl rfl rfl rfl ?_ (fun t => ?_)
          · simp [conj, hi, less_rfl, SO.Live, ren_ldr, renR_ldr, hl1]
          refine run_drawE rfl ?_
          refine goL hB' rfl rfl (by simp [conj, hi]) ?_
          refine run_to hpin' [0, 1, 2, 3, 4, 5, 12] rfl rfl ?_ next
          simp [conj, less_rfl, ren_valR, ren_cntF, renR_cntF, ren_ldr, renR_ldr]
      | false =>
        have he2 := isNew_old hz
        rw [he2] at next
        by_cases hLe : L = []
        · subst hLe
          refine run_drawK (M := modeL) (kn := K') hKB 1 12 rfl named hB' sL_ok [(12, rcApO0 S Bk P (E i) (V i))] ⟨⟨applyR0_old K' S Bk P hN (E i) hFi (by omega) (by omega) hz, rfl, Nat.le_refl _⟩, trivial⟩ rfl rfl rfl rfl rfl rfl ?_ (fun t => ?_)
          · simp [conj, hi]
          refine run_drawE rfl ?_
          refine goL hB' rfl rfl (by simp [conj, hi]) ?_
          refine run_to hpin' [0, 1, 2, 3, 4, 5, 12] rfl rfl ?_ next
          simp [conj, less_rfl, ren_valR, ren_cntF, renR_cntF, ren_ldr, renR_ldr]
        · have hl1 : 0 < L.length := List.length_pos_iff.2 hLe
          refine run_drawK (M := modeL) (kn := K') hKB 1 12 rfl named hB' sL_ok [(12, rcApO S Bk P L (E i) L.length (V i) 6)] ⟨⟨applyR_old K' S Bk P hN L hL L.length (E i) hFi (by omega) (by omega) hz, rfl, Nat.le_refl _⟩, trivial⟩ rfl rfl rfl rfl rfl rfl ?_ (fun t => ?_)
          · simp [conj, hi, less_rfl, SO.Live, ren_ldr, renR_ldr, hl1]
          refine run_drawE rfl ?_
          refine goL hB' rfl rfl (by simp [conj, hi]) ?_
          refine run_to hpin' [0, 1, 2, 3, 4, 5, 6] rfl rfl ?_ next
          simp [conj, less_rfl, ren_valR, ren_cntF, renR_cntF, ren_ldr, renR_ldr]
    · have ih := ih
      refine run_open hK' 81 hFi (by decide) rfl (fun off2 => ?_)
      refine run_callC (apply_hc S Bk P hN L hL (E i) off2 (E i).length (by omega)) named hB' [1, 2, 3, 4, 7] rfl rfl rfl rfl (by simp [conj]) (by simp [conj, less_rfl, ren_cntF, ren_ldr]) ?_
      rintro ⟨⟩ _
      refine ⟨show 5 ≤ 5 by omega, _, _, _, rfl, rfl, rfl, ?_⟩
      refine run_close (.inl rfl) ?_
      generalize (appG S Bk P L L (E i)).1 = L2 at *
      generalize (appG S Bk P L L (E i)).2 = e2 at *
      refine goLY hB' [(4, 85)] 300 rfl (by simp [conj]) ?_
      refine run_ff (by simp) ?_
      refine goLY hB' [] 300 rfl (by simp [conj]) ?_
      refine run_callC (is_hc S Bk P hN (by omega) L2 hL2 L2.length) named hB' [1, 2, 3, 4, 6] rfl rfl rfl rfl (by simp [conj]) (by simp [conj, less_rfl, ren_cntF, renR_cntF, ren_ldr, renR_ldr]) ?_
      rintro ⟨⟩ _
      refine ⟨show 5 ≤ 5 by omega, _, _, _, rfl, rfl, rfl, ?_⟩
      refine goL hB' rfl rfl (by simp [conj, Fits_i64]; omega) ?_
      refine run_back ?_
      refine run_to hpin' [0, 1, 2, 3, 4, 5, 6] rfl rfl ?_ ih
      clear ih
      simp [conj, less_rfl, ren_valR, ren_cntF, renR_cntF, ren_ldr]
  · clear ih
    refine goL hB' rfl rfl (by simp [conj]) ?_
    exact run_retF hF' hpin' () trivial [0] rfl rfl (by simp [conj]) rfl (by simp [conj, ren_valR, less_rfl])
end Sx
