/- The calls of 'do' over a list of queues that is only read. Conditions: as each theorem says. -/
import Derived.Test.YtkoeikjcnancdaaAal
set_option linter.unusedSimpArgs false
set_option linter.unusedVariables false
namespace Sx
open Go Go.Proofs
set_option maxRecDepth 100000
abbrev droH (Q : Ld) (cap : Nat) (a : AC) (off capL : Nat) : Hp := [(2, .row 0 Q.length cap 2 (ldr Q) 63), (3, .row off a.ld.length capL 2 (ldr a.ld) anyTy)]
abbrev kO (s : ASt) (Q : Ld) : Unit → Out := fun _ => ⟨.tup [refV s 2 Q.length, .tt], objH s, 4⟩
abbrev nO (s : ASt) (Q : Ld) (n cap : Nat) : Unit → Out := fun _ => ⟨.tup [refV s 4 n, .tt], objH s ++ [(4, .row 0 n cap 2 (ldr Q) 63)], 5⟩
theorem do_add_okR (s : ASt) (Q : Ld) (cap off capL : Nat) (hlq : Q.length < 100000) (a : AC) (hk : a.k = 0) (hh : ∀ x, s.h x = hasQ Q x) (he : addE s a.q a.c = 0) (hQ' : QOk (addS s a.q a.c) (insQ a.q a.c Q)) :
    HC Try.prog 18 [.ptr 0 0, refV s 2 Q.length, actV a 3 off] (objH s) (droH Q cap a off capL) 4 (fun _ : Unit => True) (nO (addS s a.q a.c) (insQ a.q a.c Q) (Q.length + 1) (Q.length + 1)) := by
  refine hc_of_run Try.func18 rfl (fun B hB hpin => ?_)
  refine goK hB s2_ok rfl rfl (by simp [conj]) ?_
  refine run_condT rfl (by simpa using hk) ?_
  refine goK hB s2_ok rfl rfl (by simp [conj]) ?_
  refine run_callC (refadd_ok s Q cap (by omega) hh a.q a.c he) named hB [2] rfl rfl rfl rfl (by simp [conj]) (by simp [conj, less_rfl, ren_ldr]) ?_
  rintro ⟨⟩ _
  refine ⟨show 1 ≤ 2 by omega, _, _, _, rfl, rfl, rfl, ?_⟩
  refine goK hB s2_ok rfl rfl (by simp [conj]) ?_
  refine run_draw0 mixed (fun t => ?_)
  refine run_drawC (M := modeK s2) 1 16 rfl named hB s2_ok [(15, rcAdd s a.q a.c [0, 1]), (21, rcAgr (addS s a.q a.c) (insQ a.q a.c Q) (Q.length + 1) [0, 1, 7])]
    ⟨⟨add_hc s a.q a.c, rfl, Nat.le_refl _⟩, ⟨agrees_hc _ _ _ hQ' (by rw [insQ_length]; omega), rfl, Nat.le_refl _⟩, trivial⟩ rfl rfl rfl rfl rfl rfl (by simp [conj, less_rfl, SO.Live, he, ren_ldr, renR_ldr, insQ_length, addS_num]) (fun t => ?_)
  refine run_drawE rfl ?_
  refine goK hB s2_ok rfl rfl (by simp [conj]) ?_
  refine run_retC hpin () trivial [0, 1, 2, 3, 7] rfl rfl (by simp [conj]) rfl ?_
  simp [conj, less_rfl, ren_ldr, renR_ldr, insQ_length, addS_num, he]
theorem do_add_badR (s : ASt) (Q : Ld) (cap off capL : Nat) (hlq : Q.length < 100000) (a : AC) (hk : a.k = 0) (he : addE s a.q a.c ≠ 0) (hQ : QOk s Q) :
    HC Try.prog 18 [.ptr 0 0, refV s 2 Q.length, actV a 3 off] (objH s) (droH Q cap a off capL) 4 (fun _ : Unit => True) (kO s Q) := by
  refine hc_of_run Try.func18 rfl (fun B hB hpin => ?_)
  refine goK hB s2_ok rfl rfl (by simp [conj]) ?_
  refine run_condT rfl (by simpa using hk) ?_
  refine goK hB s2_ok rfl rfl (by simp [conj]) ?_
  refine run_callC (refadd_bad s Q cap (by omega) hQ.h a.q a.c he) named hB [2] rfl rfl rfl rfl (by simp [conj]) (by simp [conj, less_rfl, ren_ldr]) ?_
  rintro ⟨⟩ _
  refine ⟨show 1 ≤ 1 by omega, _, _, _, rfl, rfl, rfl, ?_⟩
  refine goK hB s2_ok rfl rfl (by simp [conj]) ?_
  refine run_draw0 mixed (fun t => ?_)
  rcases Nat.eq_zero_or_pos Q.length with hz | hz
  · have hnil : Q = [] := List.length_eq_zero_iff.1 hz
    subst hnil
    refine run_drawC (M := modeK s2) 1 16 rfl named hB s2_ok [(14, rcAddB s a.q a.c [0, 1]), (20, rcAgr0 s [0, 1])]
      ⟨⟨addB_hc s a.q a.c he, rfl, Nat.le_refl _⟩, ⟨agrees0_hc s hQ, rfl, Nat.le_refl _⟩, trivial⟩ rfl rfl rfl rfl rfl rfl (by simp [conj, less_rfl, SO.Live]) (fun t => ?_)
    refine run_drawE rfl ?_
    refine goK hB s2_ok rfl rfl (by simp [conj]) ?_
    refine run_retC hpin () trivial [0, 1, 2, 3] rfl rfl (by simp [conj]) rfl ?_
    simp [conj, less_rfl, ren_ldr, renR_ldr]
  · refine run_drawC (M := modeK s2) 1 16 rfl named hB s2_ok [(14, rcAddB s a.q a.c [0, 1]), (20, rcAgr s Q cap [0, 1, 2])]
      ⟨⟨addB_hc s a.q a.c he, rfl, Nat.le_refl _⟩, ⟨agrees_hc s Q cap hQ (by omega), rfl, Nat.le_refl _⟩, trivial⟩ rfl rfl rfl rfl rfl rfl (by simp [conj, less_rfl, SO.Live, ren_ldr, renR_ldr]; exact .inl hz) (fun t => ?_)
    refine run_drawE rfl ?_
    refine goK hB s2_ok rfl rfl (by simp [conj]) ?_
    refine run_retC hpin () trivial [0, 1, 2, 3] rfl rfl (by simp [conj]) rfl ?_
    simp [conj, less_rfl, ren_ldr, renR_ldr]
theorem do_rem_badR (s : ASt) (Q : Ld) (cap off capL : Nat) (hlq : Q.length < 100000) (a : AC) (hk : a.k = 1) (he : remE s a.q ≠ 0) (hQ : QOk s Q) :
    HC Try.prog 18 [.ptr 0 0, refV s 2 Q.length, actV a 3 off] (objH s) (droH Q cap a off capL) 4 (fun _ : Unit => True) (kO s Q) := by
  refine hc_of_run Try.func18 rfl (fun B hB hpin => ?_)
  refine goK hB s2_ok rfl rfl (by simp [conj]) ?_
  refine run_condF rfl (by simp [hk]) ?_
  refine goK hB s2_ok rfl rfl (by simp [conj]) ?_
  refine run_condT rfl (by simpa using hk) ?_
  refine goK hB s2_ok rfl rfl (by simp [conj]) ?_
  refine run_callC (refrem_bad s Q cap (by omega) hQ.h a.q he) named hB [2] rfl rfl rfl rfl (by simp [conj]) (by simp [conj, less_rfl, ren_ldr]) ?_
  rintro ⟨⟩ _
  refine ⟨show 1 ≤ 1 by omega, _, _, _, rfl, rfl, rfl, ?_⟩
  refine goK hB s2_ok rfl rfl (by simp [conj]) ?_
  refine run_draw0 mixed (fun t => ?_)
  rcases Nat.eq_zero_or_pos Q.length with hz | hz
  · have hnil : Q = [] := List.length_eq_zero_iff.1 hz
    subst hnil
    refine run_drawC (M := modeK s2) 1 14 rfl named hB s2_ok [(12, rcRemB s a.q [0, 1]), (18, rcAgr0 s [0, 1])]
      ⟨⟨remB_hc s a.q he, rfl, Nat.le_refl _⟩, ⟨agrees0_hc s hQ, rfl, Nat.le_refl _⟩, trivial⟩ rfl rfl rfl rfl rfl rfl (by simp [conj, less_rfl, SO.Live]) (fun t => ?_)
    refine run_drawE rfl ?_
    refine goK hB s2_ok rfl rfl (by simp [conj]) ?_
    refine run_retC hpin () trivial [0, 1, 2, 3] rfl rfl (by simp [conj]) rfl ?_
    simp [conj, less_rfl, ren_ldr, renR_ldr]
  · refine run_drawC (M := modeK s2) 1 14 rfl named hB s2_ok [(12, rcRemB s a.q [0, 1]), (18, rcAgr s Q cap [0, 1, 2])]
      ⟨⟨remB_hc s a.q he, rfl, Nat.le_refl _⟩, ⟨agrees_hc s Q cap hQ (by omega), rfl, Nat.le_refl _⟩, trivial⟩ rfl rfl rfl rfl rfl rfl (by simp [conj, less_rfl, SO.Live, ren_ldr, renR_ldr]; exact .inl hz) (fun t => ?_)
    refine run_drawE rfl ?_
    refine goK hB s2_ok rfl rfl (by simp [conj]) ?_
    refine run_retC hpin () trivial [0, 1, 2, 3] rfl rfl (by simp [conj]) rfl ?_
    simp [conj, less_rfl, ren_ldr, renR_ldr]
theorem do_rem_okR (s : ASt) (Q : Ld) (cap off capL : Nat) (hlq : Q.length < 100000) (a : AC) (hk : a.k = 1) (he : remE s a.q = 0) (k : Nat) (hkq : k < Q.length) (hA : atF Q a.q = k) (hQ' : QOk (remS s a.q) (Q.eraseIdx k)) :
    HC Try.prog 18 [.ptr 0 0, refV s 2 Q.length, actV a 3 off] (objH s) (droH Q cap a off capL) 4 (fun _ : Unit => True) (nO (remS s a.q) (Q.eraseIdx k) (Q.length - 1) (Q.length - 1)) := by
  have hr : ¬ (a.q < 0 ∨ 65535 < a.q) := fun h => by simp [remE, h] at he
  have hel : (Q.eraseIdx k).length = Q.length - 1 := by rw [List.length_eraseIdx, if_pos hkq]
  refine hc_of_run Try.func18 rfl (fun B hB hpin => ?_)
  refine goK hB s2_ok rfl rfl (by simp [conj]) ?_
  refine run_condF rfl (by simp [hk]) ?_
  refine goK hB s2_ok rfl rfl (by simp [conj]) ?_
  refine run_condT rfl (by simpa using hk) ?_
  refine goK hB s2_ok rfl rfl (by simp [conj]) ?_
  refine run_callC (refrem_ok s Q cap (by omega) a.q hr k hkq hA) named hB [2] rfl rfl rfl rfl (by simp [conj]) (by simp [conj, less_rfl, ren_ldr]) ?_
  rintro ⟨⟩ _
  refine ⟨show 1 ≤ 2 by omega, _, _, _, rfl, rfl, rfl, ?_⟩
  refine goK hB s2_ok rfl rfl (by simp [conj]) ?_
  refine run_draw0 mixed (fun t => ?_)
  generalize hE : Q.eraseIdx k = E at *
  rcases Nat.eq_zero_or_pos E.length with hz | hz
  · have hnil : E = [] := List.length_eq_zero_iff.1 hz
    subst hnil
    have hl0 : Q.length - 1 = 0 := hel.symm
    rw [hl0]
    refine run_drawC (M := modeK s2) 1 14 rfl named hB s2_ok [(13, rcRem s a.q [0, 1]), (19, rcAgr0 (remS s a.q) [0, 1])]
      ⟨⟨rem_hc s a.q, rfl, Nat.le_refl _⟩, ⟨agrees0_hc _ hQ', rfl, Nat.le_refl _⟩, trivial⟩ rfl rfl rfl rfl rfl rfl (by simp [conj, less_rfl, SO.Live, he, remS_num]) (fun t => ?_)
    refine run_drawE rfl ?_
    refine goK hB s2_ok rfl rfl (by simp [conj]) ?_
    refine run_retC hpin () trivial [0, 1, 2, 3, 7] rfl rfl (by simp [conj]) rfl ?_
    simp [conj, less_rfl, ren_ldr, renR_ldr, remS_num, he]
  · rw [← hel]
    refine run_drawC (M := modeK s2) 1 14 rfl named hB s2_ok [(13, rcRem s a.q [0, 1]), (19, rcAgr (remS s a.q) E E.length [0, 1, 7])]
      ⟨⟨rem_hc s a.q, rfl, Nat.le_refl _⟩, ⟨agrees_hc _ E E.length hQ' (by omega), rfl, Nat.le_refl _⟩, trivial⟩ rfl rfl rfl rfl rfl rfl (by simp [conj, less_rfl, SO.Live, ren_ldr, renR_ldr, he, remS_num]; exact .inl hz) (fun t => ?_)
    refine run_drawE rfl ?_
    refine goK hB s2_ok rfl rfl (by simp [conj]) ?_
    refine run_retC hpin () trivial [0, 1, 2, 3, 7] rfl rfl (by simp [conj]) rfl ?_
    simp [conj, less_rfl, ren_ldr, renR_ldr, remS_num, he]
theorem do_confR (s : ASt) (Q : Ld) (cap off capL : Nat) (a : AC) (hk : a.k = 2) :
    HC Try.prog 18 [.ptr 0 0, refV s 2 Q.length, actV a 3 off] (objH s) (droH Q cap a off capL) 4 (fun _ : Unit => True) (kO (s.confS a.w a.b a.hi a.me a.lo) Q) := by
  refine hc_of_run Try.func18 rfl (fun B hB hpin => ?_)
  refine goK hB s2_ok rfl rfl (by simp [conj]) ?_
  refine run_condF rfl (by simp [hk]) ?_
  refine goK hB s2_ok rfl rfl (by simp [conj]) ?_
  refine run_condF rfl (by simp [hk]) ?_
  refine goK hB s2_ok rfl rfl (by simp [conj]) ?_
  refine run_condT rfl (by simpa using hk) ?_
  refine goK hB s2_ok rfl rfl (by simp [conj]) ?_
  refine run_callC (conf_hc s a.w a.b a.hi a.me a.lo) named hB [0, 1] rfl rfl rfl rfl (by simp [conj]) (by simp [conj, less_rfl]) ?_
  rintro ⟨⟩ _
  refine ⟨show 2 ≤ 2 by omega, _, _, _, rfl, rfl, rfl, ?_⟩
  refine goK hB s2_ok rfl rfl (by simp [conj]) ?_
  refine run_cond rfl (fun h => ?_) (fun h => ?_)
  · have h : okC a.w a.b a.hi a.me a.lo = false := by simpa using h
    refine goK hB s2_ok rfl rfl (by simp [conj]) ?_
    refine run_retC hpin () trivial [0, 1, 2, 3] rfl rfl (by simp [conj]) rfl ?_
    simp [conj, less_rfl, ren_ldr, renR_ldr, confE, ASt.confS, h]
  · have h : okC a.w a.b a.hi a.me a.lo = true := by simpa using h
    refine goK hB s2_ok rfl rfl (by simp [conj]) ?_
    refine run_retC hpin () trivial [0, 1, 2, 3] rfl rfl (by simp [conj]) rfl ?_
    simp [conj, less_rfl, ren_ldr, renR_ldr, confE, ASt.confS, ASt.conf, h]
set_option maxHeartbeats 4000000 in
theorem do_pickR (s : ASt) (hs : CredOk s) (Q : Ld) (cap off capL : Nat) (hlq : Q.length < 100000) (a : AC) (hla : a.ld.length < 100000) (hk0 : a.k ≠ 0) (hk1 : a.k ≠ 1) (hk2 : a.k ≠ 2) (hQ : QOk s Q) :
    HC Try.prog 18 [.ptr 0 0, refV s 2 Q.length, actV a 3 off] (objH s) (droH Q cap a off capL) 4 (PkP s Q a.ld) (fun z => kO z.s Q ()) := by
  refine hc_of_run Try.func18 rfl (fun B hB hpin => ?_)
  refine goK hB s2_ok rfl rfl (by simp [conj]) ?_
  refine run_condF rfl (by simpa using hk0) ?_
  refine goK hB s2_ok rfl rfl (by simp [conj]) ?_
  refine run_condF rfl (by simpa using hk1) ?_
  refine goK hB s2_ok rfl rfl (by simp [conj]) ?_
  refine run_condF rfl (by simpa using hk2) ?_
  refine goK hB s2_ok rfl rfl (by simp [conj]; exact ⟨by omega, by omega, fun i k _ hk => sto_ldr a.ld i k hk⟩) ?_
  refine run_callC (pick_hc s hs a.ld 0 a.ld.length (by omega) (lQ Q a.ld) (fun hok => lQ_keys hQ hok)) named hB [0, 1, 7] rfl rfl rfl rfl (by simp [conj]) (by simp [conj, less_rfl, ren_ldr, appF_zero]) ?_
  intro z hz
  refine ⟨show 3 ≤ 3 by omega, _, _, _, rfl, rfl, rfl, ?_⟩
  refine goK hB s2_ok rfl rfl (by simp [conj]) ?_
  refine run_callC (refpick_hc s hs Q a.ld hQ cap off capL (by omega) (by omega)) named hB [2, 3] rfl rfl rfl rfl (by simp [conj]) (by simp [conj, less_rfl, ren_ldr]) ?_
  intro y hy
  have := PkP.eq hz hy
  subst this
  refine ⟨show 2 ≤ 2 by omega, _, _, _, rfl, rfl, rfl, ?_⟩
  refine goK hB s2_ok rfl rfl (by simp [conj]) ?_
  refine run_loop ?_
  refine run_inv (ι := Nat) hpin (fun i => i ≤ a.ld.length) (fun i => a.ld.length - i)
    (fun i => [(5, .ptr 5 0), (6, .ptr 6 0), (7, .ff), (13, .sq 7 0 0 2 a.ld.length .own), (14, i64 y.q), (15, i64 y.n), (16, i64 y.e), (17, .ptr 8 0), (18, i64 y.q), (19, i64 y.n), (20, i64 y.e), (21, i64 i)]) (fun _ => [])
    (fun i => objH y.s ++ [(5, .cells [i64 a.k, i64 a.q, i64 a.c, .sb a.w, i64 a.b, i64 a.hi, i64 a.me, i64 a.lo, .sq 3 off 0 2 a.ld.length .no] 54), (6, .cells [.ff, i64 0, i64 0, i64 0, i64 0, .nilsl, i64 0, i64 0, i64 0, i64 0, i64 0, i64 0, i64 0, i64 0] 49),
      (7, .row 0 a.ld.length a.ld.length 2 (ldr a.ld) 35), (8, .cells (refL y.s 2 Q.length .no) 49)]) 9 0 (Nat.zero_le _)
    [0, 1, 2, 3, 4, 5, 6, 7, 8] rfl rfl (by simp [conj, less_rfl, ren_ldr, appF_zero]) ?_
  intro i hi0 ih
  refine goK hB s2_ok rfl rfl (by simp [conj]) ?_
  refine run_cond rfl (fun h => ?_) (fun h => ?_)
  · have hi : i < a.ld.length := by simpa using h
    have ih := ih (i + 1) (by show i + 1 ≤ a.ld.length; omega) (by show a.ld.length - (i + 1) < a.ld.length - i; omega)
    refine goK hB s2_ok rfl rfl (by simp [conj, hi, rowEq35]) ?_
    refine run_condF rfl (by simp [hi, ldr]) ?_
    refine goK hB s2_ok rfl rfl (by simp [conj, Fits_i64]; omega) ?_
    refine run_back ?_
    refine run_to hpin [0, 1, 2, 3, 4, 5, 6, 7, 8] rfl rfl ?_ ih
    clear ih
    simp [conj, less_rfl, ren_ldr]
  · clear ih
    refine goK hB s2_ok rfl rfl (by simp [conj]) ?_
    refine run_retC hpin y hy [0, 1, 2, 3] rfl rfl (by simp [conj]) rfl ?_
    simp [conj, less_rfl, ren_ldr]
/-- Any call over a list of queues that is only read: the list is kept, or there is a new one. -/
theorem do_detR (s : ASt) (hs : CredOk s) (Q : Ld) (hQ : QOk s Q) (cap off capL : Nat) (hlq : Q.length < 100000) (a : AC) (hla : a.ld.length < 100000) :
    (∃ z : ASt, (QOk z Q ∧ CredOk z) ∧ HC Try.prog 18 [.ptr 0 0, refV s 2 Q.length, actV a 3 off] (objH s) (droH Q cap a off capL) 4 (fun _ : Unit => True) (kO z Q)) ∨
    (∃ z : ASt × Ld × Nat, (QOk z.1 z.2.1 ∧ CredOk z.1 ∧ z.2.1.length ≤ Q.length + 1) ∧ HC Try.prog 18 [.ptr 0 0, refV s 2 Q.length, actV a 3 off] (objH s) (droH Q cap a off capL) 4 (fun _ : Unit => True) (nO z.1 z.2.1 z.2.1.length z.2.2)) := by
  by_cases h0 : a.k = 0
  · by_cases he : addE s a.q a.c = 0
    · have := do_add_okR s Q cap off capL hlq a h0 hQ.h he (hQ.add he)
      rw [← insQ_length a.q a.c Q] at this
      exact .inr ⟨(_, _, _), ⟨hQ.add he, hs.add _ _, by show (insQ _ _ _).length ≤ _; rw [insQ_length]; omega⟩, this⟩
    · exact .inl ⟨_, ⟨hQ, hs⟩, do_add_badR s Q cap off capL hlq a h0 he hQ⟩
  by_cases h1 : a.k = 1
  · by_cases he : remE s a.q = 0
    · obtain ⟨k, hk, e, hQ'⟩ := hQ.rem he
      have := do_rem_okR s Q cap off capL hlq a h1 he k hk e hQ'
      have hel : (Q.eraseIdx k).length = Q.length - 1 := by rw [List.length_eraseIdx, if_pos hk]
      rw [← hel] at this
      exact .inr ⟨(_, _, _), ⟨hQ', hs.rem _, by show (Q.eraseIdx k).length ≤ _; omega⟩, this⟩
    · exact .inl ⟨_, ⟨hQ, hs⟩, do_rem_badR s Q cap off capL hlq a h1 he hQ⟩
  by_cases h2 : a.k = 2
  · exact .inl ⟨_, ⟨hQ.conf _ _ _ _ _, hs.conf _ _ _ _ _⟩, do_confR s Q cap off capL a h2⟩
  · have hex : ∃ z, PkP s Q a.ld z := by
      by_cases hk : LdOk s a.ld
      · exact ⟨_, .inr ⟨hk, rfl⟩⟩
      · exact ⟨_, .inl ⟨hk, rfl⟩⟩
    obtain ⟨z, hz⟩ := hex
    refine .inl ⟨z.s, ⟨hz.q hQ, hz.cred hs⟩, (do_pickR s hs Q cap off capL hlq a hla h0 h1 h2 hQ).to fun y hy => ⟨(), trivial, ?_⟩⟩
    rw [PkP.eq hz hy]
def rcDoK (s : ASt) (Q : Ld) (cap off : Nat) (a : AC) (z : ASt) (sg : List Nat) : RC :=
  ⟨18, [.ptr 0 0, refV s 2 Q.length, actV a 3 off], objH s, droH Q cap a off a.ld.length, 4, .tup [refV z 2 Q.length, .tt], objH z, 4, sg⟩
def rcDoN (s : ASt) (Q : Ld) (cap off : Nat) (a : AC) (z : ASt × Ld × Nat) (sg : List Nat) : RC :=
  ⟨18, [.ptr 0 0, refV s 2 Q.length, actV a 3 off], objH s, droH Q cap a off a.ld.length, 4, .tup [refV z.1 4 z.2.1.length, .tt], objH z.1 ++ [(4, .row 0 z.2.1.length z.2.2 2 (ldr z.2.1) 63)], 5, sg⟩
def rcCopy (s : ASt) (sg : List Nat) : RC := ⟨22, [.ptr 0 0], objH s, [], 2, .ptr 2 0, objN s 0 1 ++ objN s 2 3, 4, sg⟩
end Sx
