/- A call on the arbiter and on the reference. Conditions: as each theorem says. -/
import Derived.Test.YtkoeikjcnancdaaAp
set_option linter.unusedSimpArgs false
set_option linter.unusedVariables false
namespace Sx
open Go Go.Proofs
set_option maxRecDepth 100000
/-- A call. -/
structure AC where
  k : Int
  q : Int
  c : Int
  w : Bool
  b : Int
  hi : Int
  me : Int
  lo : Int
  ld : Ld
abbrev actV (a : AC) (r off : Nat) : SV := .agg [i64 a.k, i64 a.q, i64 a.c, .sb a.w, i64 a.b, i64 a.hi, i64 a.me, i64 a.lo, .sq r off 0 2 a.ld.length .no]
abbrev lrow (a : AC) (off cap : Nat) : Hp := [(3, .row off a.ld.length cap 2 (ldr a.ld) anyTy)]
def rcAdd (s : ASt) (q c : Int) (sg : List Nat) : RC := ⟨12, [.ptr 0 0, i64 q, i64 c], objH s, [], 2, i64 (addE s q c), objH (addS s q c), 2, sg⟩
def rcAgr (s : ASt) (Q : Ld) (cap : Nat) (sg : List Nat) : RC := ⟨23, [.ptr 0 0, refV s 2 Q.length], objH s, [(2, .row 0 Q.length cap 2 (ldr Q) 63)], 3, .tt, objH s, 3, sg⟩
def rcAgr0 (s : ASt) (sg : List Nat) : RC := ⟨23, [.ptr 0 0, refV s 2 0], objH s, [], 2, .tt, objH s, 2, sg⟩
abbrev doH (s : ASt) (Q : Ld) (cap : Nat) : Hp := objH s ++ [(2, .row 0 Q.length cap 2 (ldr Q) 63)]
abbrev doO (s : ASt) (Q : Ld) (cap : Nat) : Unit → Out := fun _ => ⟨.tup [refV s 4 Q.length, .tt], objH s ++ [(4, .row 0 Q.length cap 2 (ldr Q) 63)], 5⟩
theorem addS_num (s : ASt) (q c : Int) : (addS s q c).w = s.w ∧ (addS s q c).b = s.b ∧ (addS s q c).hi = s.hi ∧ (addS s q c).me = s.me ∧ (addS s q c).lo = s.lo ∧ (addS s q c).l0 = s.l0 ∧ (addS s q c).l1 = s.l1 ∧ (addS s q c).l2 = s.l2 ∧ (addS s q c).l3 = s.l3 ∧ (addS s q c).c0 = s.c0 ∧ (addS s q c).c1 = s.c1 ∧ (addS s q c).c2 = s.c2 ∧ (addS s q c).c3 = s.c3 := by
  unfold addS
  split
  · simp
  · split <;> simp
theorem remS_num (s : ASt) (q : Int) : (remS s q).w = s.w ∧ (remS s q).b = s.b ∧ (remS s q).hi = s.hi ∧ (remS s q).me = s.me ∧ (remS s q).lo = s.lo ∧ (remS s q).l0 = s.l0 ∧ (remS s q).l1 = s.l1 ∧ (remS s q).l2 = s.l2 ∧ (remS s q).l3 = s.l3 ∧ (remS s q).c0 = s.c0 ∧ (remS s q).c1 = s.c1 ∧ (remS s q).c2 = s.c2 ∧ (remS s q).c3 = s.c3 := by
  unfold remS
  split
  · simp
  · split <;> simp
theorem do_add_ok (s : ASt) (Q : Ld) (cap off capL : Nat) (hlq : Q.length < 100000) (a : AC) (hk : a.k = 0) (hh : ∀ x, s.h x = hasQ Q x) (he : addE s a.q a.c = 0) (hQ' : QOk (addS s a.q a.c) (insQ a.q a.c Q)) :
    HC Try.prog 18 [.ptr 0 0, refV s 2 Q.length, actV a 3 off] (doH s Q cap) (lrow a off capL) 4 (fun _ : Unit => True) (doO (addS s a.q a.c) (insQ a.q a.c Q) (Q.length + 1)) := by
  refine hc_of_run Try.func18 rfl (fun B hB hpin => ?_)
  refine goK hB s2_ok rfl rfl (by simp [conj]) ?_
  refine run_condT rfl (by simpa using hk) ?_
  refine goK hB s2_ok rfl rfl (by simp [conj]) ?_
  refine run_callC (refadd_ok s Q cap (by omega) hh a.q a.c he) named hB [2] rfl rfl rfl rfl (by simp [conj]) (by simp [conj, less_rfl, ren_ldr]) ?_
  rintro ⟨⟩ _
  refine ⟨show 1 ≤ 2 by omega, _, _, _, rfl, rfl, rfl, ?_⟩
  refine goK hB s2_ok rfl rfl (by simp [conj]) ?_
  refine run_draw0 mixed (fun t => ?_)
  refine run_drawC (M := modeK s2) 1 16 rfl named hB s2_ok [(15, rcAdd s a.q a.c [0, 1]), (21, rcAgr (addS s a.q a.c) (insQ a.q a.c Q) (Q.length + 1) [0, 1, 7])]
    ⟨⟨add_hc s a.q a.c, rfl, Nat.le_refl _⟩, ⟨agrees_hc _ _ _ hQ' (by rw [insQ_length]; omega), rfl, Nat.le_refl _⟩, trivial⟩ rfl rfl rfl rfl rfl rfl (by simp [conj, less_rfl, SO.Live, he, ren_ldr, renR_ldr, insQ_length, addS_num]) (fun t => ?_)
  refine run_drawE rfl ?_
  refine goK hB s2_ok rfl rfl (by simp [conj]) ?_
  refine run_retC hpin () trivial [0, 1, 2, 3, 7] rfl rfl (by simp [conj]) rfl ?_
  simp [conj, less_rfl, ren_ldr, renR_ldr, insQ_length, addS_num, he]
def rcAddB (s : ASt) (q c : Int) (sg : List Nat) : RC := ⟨12, [.ptr 0 0, i64 q, i64 c], objH s, [], 2, i64 (addE s q c), objH s, 2, sg⟩
theorem addS_bad {s : ASt} {q c : Int} (h : addE s q c ≠ 0) : addS s q c = s := by
  unfold addE at h
  unfold addS
  split
  · rfl
  · rename_i h1
    rw [if_neg h1] at h
    split
    · rfl
    · rename_i h2; rw [if_neg h2] at h; exact absurd rfl h
theorem addB_hc (s : ASt) (q c : Int) (h : addE s q c ≠ 0) : HC Try.prog 12 [.ptr 0 0, i64 q, i64 c] (objH s) [] 2 (fun _ : Unit => True) (fun _ => ⟨i64 (addE s q c), objH s, 2⟩) := by
  have := add_hc s q c
  rw [addS_bad h] at this; exact this
theorem do_add_bad (s : ASt) (Q : Ld) (cap off capL : Nat) (hlq : Q.length < 100000) (a : AC) (hk : a.k = 0) (he : addE s a.q a.c ≠ 0) (hQ : QOk s Q) :
    HC Try.prog 18 [.ptr 0 0, refV s 2 Q.length, actV a 3 off] (doH s Q cap) (lrow a off capL) 4 (fun _ : Unit => True) (doO s Q cap) := by
  refine hc_of_run Try.func18 rfl (fun B hB hpin => ?_)
  refine goK hB s2_ok rfl rfl (by simp [conj]) ?_
  refine run_condT rfl (by simpa using hk) ?_
  refine goK hB s2_ok rfl rfl (by simp [conj]) ?_
  refine run_callC (refadd_bad s Q cap (by omega) hQ.h a.q a.c he) named hB [2] rfl rfl rfl rfl (by simp [conj]) (by simp [conj, less_rfl, ren_ldr]) ?_
  rintro ⟨⟩ _
  refine ⟨show 1 ≤ 1 by omega, _, _, _, rfl, rfl, rfl, ?_⟩
  refine goK hB s2_ok rfl rfl (by simp [conj]) ?_
  refine run_draw0 mixed (fun t => ?_)
  rcases Nat.eq_zero_or_pos Q.length with hz | hz
  · have hnil : Q = [] := List.length_eq_zero_iff.1 hz
    subst hnil
    refine run_drawC (M := modeK s2) 1 16 rfl named hB s2_ok [(14, rcAddB s a.q a.c [0, 1]), (20, rcAgr0 s [0, 1])]
      ⟨⟨addB_hc s a.q a.c he, rfl, Nat.le_refl _⟩, ⟨agrees0_hc s hQ, rfl, Nat.le_refl _⟩, trivial⟩ rfl rfl rfl rfl rfl rfl (by simp [conj, less_rfl, SO.Live]) (fun t => ?_)
    refine run_drawE rfl ?_
    refine goK hB s2_ok rfl rfl (by simp [conj]) ?_
    refine run_retC hpin () trivial [0, 1, 2, 3, 2] rfl rfl (by simp [conj]) rfl ?_
    simp [conj, less_rfl, ren_ldr, renR_ldr]
  · refine run_drawC (M := modeK s2) 1 16 rfl named hB s2_ok [(14, rcAddB s a.q a.c [0, 1]), (20, rcAgr s Q cap [0, 1, 2])]
      ⟨⟨addB_hc s a.q a.c he, rfl, Nat.le_refl _⟩, ⟨agrees_hc s Q cap hQ (by omega), rfl, Nat.le_refl _⟩, trivial⟩ rfl rfl rfl rfl rfl rfl (by simp [conj, less_rfl, SO.Live, ren_ldr, renR_ldr]; exact .inl hz) (fun t => ?_)
    refine run_drawE rfl ?_
    refine goK hB s2_ok rfl rfl (by simp [conj]) ?_
    refine run_retC hpin () trivial [0, 1, 2, 3, 2] rfl rfl (by simp [conj]) rfl ?_
    simp [conj, less_rfl, ren_ldr, renR_ldr]
theorem remS_bad {s : ASt} {q : Int} (h : remE s q ≠ 0) : remS s q = s := by
  unfold remE at h
  unfold remS
  split
  · rfl
  · rename_i h1
    rw [if_neg h1] at h
    split
    · rename_i h2; rw [if_pos h2] at h; exact absurd rfl h
    · rfl
theorem remB_hc (s : ASt) (q : Int) (h : remE s q ≠ 0) : HC Try.prog 21 [.ptr 0 0, i64 q] (objH s) [] 2 (fun _ : Unit => True) (fun _ => ⟨i64 (remE s q), objH s, 2⟩) := by
  have := rem_hc s q
  rw [remS_bad h] at this; exact this
def rcRem (s : ASt) (q : Int) (sg : List Nat) : RC := ⟨21, [.ptr 0 0, i64 q], objH s, [], 2, i64 (remE s q), objH (remS s q), 2, sg⟩
def rcRemB (s : ASt) (q : Int) (sg : List Nat) : RC := ⟨21, [.ptr 0 0, i64 q], objH s, [], 2, i64 (remE s q), objH s, 2, sg⟩
theorem do_rem_bad (s : ASt) (Q : Ld) (cap off capL : Nat) (hlq : Q.length < 100000) (a : AC) (hk : a.k = 1) (he : remE s a.q ≠ 0) (hQ : QOk s Q) :
    HC Try.prog 18 [.ptr 0 0, refV s 2 Q.length, actV a 3 off] (doH s Q cap) (lrow a off capL) 4 (fun _ : Unit => True) (doO s Q cap) := by
  refine hc_of_run Try.func18 rfl (fun B hB hpin => ?_)
  refine goK hB s2_ok rfl rfl (by simp [conj]) ?_
  refine run_condF rfl (by simp [hk]) ?_
  refine goK hB s2_ok rfl rfl (by simp [conj]) ?_
  refine run_condT rfl (by simpa using hk) ?_
  refine goK hB s2_ok rfl rfl (by simp [conj]) ?_
  refine run_callC (refrem_bad s Q cap (by omega) hQ.h a.q he) named hB [2] rfl rfl rfl rfl (by simp [conj]) (by simp [conj, less_rfl, ren_ldr]) ?_
  rintro ⟨⟩ _
  refine ⟨show 1 ≤ 1 by omega, _, _, _, rfl, rfl, rfl, ?_⟩
  refine goK hB s2_ok rfl rfl (by simp [conj]) ?_
  refine run_draw0 mixed (fun t => ?_)
  rcases Nat.eq_zero_or_pos Q.length with hz | hz
  · have hnil : Q = [] := List.length_eq_zero_iff.1 hz
    subst hnil
    refine run_drawC (M := modeK s2) 1 14 rfl named hB s2_ok [(12, rcRemB s a.q [0, 1]), (18, rcAgr0 s [0, 1])]
      ⟨⟨remB_hc s a.q he, rfl, Nat.le_refl _⟩, ⟨agrees0_hc s hQ, rfl, Nat.le_refl _⟩, trivial⟩ rfl rfl rfl rfl rfl rfl (by simp [conj, less_rfl, SO.Live]) (fun t => ?_)
    refine run_drawE rfl ?_
    refine goK hB s2_ok rfl rfl (by simp [conj]) ?_
    refine run_retC hpin () trivial [0, 1, 2, 3, 2] rfl rfl (by simp [conj]) rfl ?_
    simp [conj, less_rfl, ren_ldr, renR_ldr]
  · refine run_drawC (M := modeK s2) 1 14 rfl named hB s2_ok [(12, rcRemB s a.q [0, 1]), (18, rcAgr s Q cap [0, 1, 2])]
      ⟨⟨remB_hc s a.q he, rfl, Nat.le_refl _⟩, ⟨agrees_hc s Q cap hQ (by omega), rfl, Nat.le_refl _⟩, trivial⟩ rfl rfl rfl rfl rfl rfl (by simp [conj, less_rfl, SO.Live, ren_ldr, renR_ldr]; exact .inl hz) (fun t => ?_)
    refine run_drawE rfl ?_
    refine goK hB s2_ok rfl rfl (by simp [conj]) ?_
    refine run_retC hpin () trivial [0, 1, 2, 3, 2] rfl rfl (by simp [conj]) rfl ?_
    simp [conj, less_rfl, ren_ldr, renR_ldr]
theorem do_rem_ok (s : ASt) (Q : Ld) (cap off capL : Nat) (hlq : Q.length < 100000) (a : AC) (hk : a.k = 1) (he : remE s a.q = 0) (k : Nat) (hkq : k < Q.length) (hA : atF Q a.q = k) (hQ' : QOk (remS s a.q) (Q.eraseIdx k)) :
    HC Try.prog 18 [.ptr 0 0, refV s 2 Q.length, actV a 3 off] (doH s Q cap) (lrow a off capL) 4 (fun _ : Unit => True) (doO (remS s a.q) (Q.eraseIdx k) (Q.length - 1)) := by
  have hr : ¬ (a.q < 0 ∨ 65535 < a.q) := fun h => by simp [remE, h] at he
  have hel : (Q.eraseIdx k).length = Q.length - 1 := by rw [List.length_eraseIdx, if_pos hkq]
  refine hc_of_run Try.func18 rfl (fun B hB hpin => ?_)
  refine goK hB s2_ok rfl rfl (by simp [conj]) ?_
  refine run_condF rfl (by simp [hk]) ?_
  refine goK hB s2_ok rfl rfl (by simp [conj]) ?_
  refine run_condT rfl (by simpa using hk) ?_
  refine goK hB s2_ok rfl rfl (by simp [conj]) ?_
  refine run_callC (refrem_ok s Q cap (by omega) a.q hr k hkq hA) named hB [2] rfl rfl rfl rfl (by simp [conj]) (by simp [conj, less_rfl, ren_ldr]) ?_
  rintro ⟨⟩ _
  refine ⟨show 1 ≤ 2 by omega, _, _, _, rfl, rfl, rfl, ?_⟩
  refine goK hB s2_ok rfl rfl (by simp [conj]) ?_
  refine run_draw0 mixed (fun t => ?_)
  generalize hE : Q.eraseIdx k = E at *
  rcases Nat.eq_zero_or_pos E.length with hz | hz
  · have hnil : E = [] := List.length_eq_zero_iff.1 hz
    subst hnil
    have hl0 : Q.length - 1 = 0 := hel.symm
    rw [hl0]
    refine run_drawC (M := modeK s2) 1 14 rfl named hB s2_ok [(13, rcRem s a.q [0, 1]), (19, rcAgr0 (remS s a.q) [0, 1])]
      ⟨⟨rem_hc s a.q, rfl, Nat.le_refl _⟩, ⟨agrees0_hc _ hQ', rfl, Nat.le_refl _⟩, trivial⟩ rfl rfl rfl rfl rfl rfl (by simp [conj, less_rfl, SO.Live, he, remS_num]) (fun t => ?_)
    refine run_drawE rfl ?_
    refine goK hB s2_ok rfl rfl (by simp [conj]) ?_
    refine run_retC hpin () trivial [0, 1, 2, 3, 7] rfl rfl (by simp [conj]) rfl ?_
    simp [conj, less_rfl, ren_ldr, renR_ldr, remS_num, he]
  · rw [← hel]
    refine run_drawC (M := modeK s2) 1 14 rfl named hB s2_ok [(13, rcRem s a.q [0, 1]), (19, rcAgr (remS s a.q) E E.length [0, 1, 7])]
      ⟨⟨rem_hc s a.q, rfl, Nat.le_refl _⟩, ⟨agrees_hc _ E E.length hQ' (by omega), rfl, Nat.le_refl _⟩, trivial⟩ rfl rfl rfl rfl rfl rfl (by simp [conj, less_rfl, SO.Live, ren_ldr, renR_ldr, he, remS_num]; exact .inl hz) (fun t => ?_)
    refine run_drawE rfl ?_
    refine goK hB s2_ok rfl rfl (by simp [conj]) ?_
    refine run_retC hpin () trivial [0, 1, 2, 3, 7] rfl rfl (by simp [conj]) rfl ?_
    simp [conj, less_rfl, ren_ldr, renR_ldr, remS_num, he]
theorem do_conf (s : ASt) (Q : Ld) (cap off capL : Nat) (a : AC) (hk : a.k = 2) :
    HC Try.prog 18 [.ptr 0 0, refV s 2 Q.length, actV a 3 off] (doH s Q cap) (lrow a off capL) 4 (fun _ : Unit => True) (doO (s.confS a.w a.b a.hi a.me a.lo) Q cap) := by
  refine hc_of_run Try.func18 rfl (fun B hB hpin => ?_)
  refine goK hB s2_ok rfl rfl (by simp [conj]) ?_
  refine run_condF rfl (by simp [hk]) ?_
  refine goK hB s2_ok rfl rfl (by simp [conj]) ?_
  refine run_condF rfl (by simp [hk]) ?_
  refine goK hB s2_ok rfl rfl (by simp [conj]) ?_
  refine run_condT rfl (by simpa using hk) ?_
  refine goK hB s2_ok rfl rfl (by simp [conj]) ?_
  refine run_callC (conf_hc s a.w a.b a.hi a.me a.lo) named hB [0, 1] rfl rfl rfl rfl (by simp [conj]) (by simp [conj, less_rfl]) ?_
  rintro ⟨⟩ _
  refine ⟨show 2 ≤ 2 by omega, _, _, _, rfl, rfl, rfl, ?_⟩
  refine goK hB s2_ok rfl rfl (by simp [conj]) ?_
  refine run_cond rfl (fun h => ?_) (fun h => ?_)
  · have h : okC a.w a.b a.hi a.me a.lo = false := by simpa using h
    refine goK hB s2_ok rfl rfl (by simp [conj]) ?_
    refine run_retC hpin () trivial [0, 1, 2, 3, 2] rfl rfl (by simp [conj]) rfl ?_
    simp [conj, less_rfl, ren_ldr, renR_ldr, confE, ASt.confS, h]
  · have h : okC a.w a.b a.hi a.me a.lo = true := by simpa using h
    refine goK hB s2_ok rfl rfl (by simp [conj]) ?_
    refine run_retC hpin () trivial [0, 1, 2, 3, 2] rfl rfl (by simp [conj]) rfl ?_
    simp [conj, less_rfl, ren_ldr, renR_ldr, confE, ASt.confS, ASt.conf, h]
end Sx
