/- The reference's Pick. Conditions: as each theorem says. -/
import Derived.Test.YtkoeikjcnancdaaAk
set_option linter.unusedSimpArgs false
set_option linter.unusedVariables false
namespace Sx
open Go Go.Proofs
set_option maxRecDepth 100000
/-- A row of truths. -/
def br (d : Nat → Bool) : Nat → Nat → SV := fun i j =>
  match j with
  | 0 => .sb (d i)
  | _ => .und
theorem ren_br (nx : Nat) (sg : List Nat) (d : Nat → Bool) (i j : Nat) : ren nx sg (br d i j) = br d i j := by
  unfold br; split <;> simp only [ren, renF, id]
theorem renR_br (nx : Nat) (sg : List Nat) (d : Nat → Bool) : renR nx sg (br d) = br d := by funext i j; exact ren_br nx sg d i j
theorem updF_br (d : Nat → Bool) (e : Nat) : updF (br d) e 0 (SV.tt).cells = fun i j => if i = e ∧ j = 0 then .tt else br d i j := by
  funext i j
  unfold updF
  simp only [SV.cells, Nat.zero_le, true_and, List.length_cons, List.length_nil, Nat.zero_add, Nat.sub_zero]
  by_cases h : i = e ∧ j < 1
  · rw [if_pos h, if_pos ⟨h.1, by omega⟩, show j = 0 by omega]; rfl
  · rw [if_neg h, if_neg (fun q => h ⟨q.1, by omega⟩)]
def rcAt0 (s : ASt) (a : Int) : RC := ⟨42, [refV s 0 0, i64 a], [], [], 0, i64 (-1), [], 0, []⟩
def rcAt (s : ASt) (Q : Ld) (cap : Nat) (a : Int) (sg : List Nat) : RC := ⟨42, [refV s 0 Q.length, i64 a], [], qH Q cap, 1, i64 (atF Q a), [], 1, sg⟩
abbrev ldH (Q ld : Ld) (cap off capL : Nat) : Hp := [(0, .row 0 Q.length cap 2 (ldr Q) 63), (1, .row off ld.length capL 2 (ldr ld) anyTy)]
theorem run_shareA {ι : Type} {P : Program} {ro : Hp} {B : Base} {f : FuncId} {R : Ending → World → Prop} {N : Nat} {TD : List SI} (c1 : ι → Nat → List SI → Cfg) (I : ι → Prop) {Q : Prop} (main : (∀ z, I z → Run P ro B f R (c1 z N TD)) → Q) (proof : ∀ z, I z → Run P ro B f R (c1 z N TD)) : Q := main proof
def anyU (W : Int → Bool) (c : Nat) : Bool := (decide (1 < c) && W 1) || (decide (2 < c) && W 2) || (decide (3 < c) && W 3)
def credU (s : ASt) (W : Int → Bool) (c : Nat) : Bool := (decide (1 < c) && W 1 && decide (0 < s.c1)) || (decide (2 < c) && W 2 && decide (0 < s.c2)) || (decide (3 < c) && W 3 && decide (0 < s.c3))
theorem anyU_C (W : Int → Bool) : anyU W 4 = anyC W := by simp [anyU, anyC]
theorem credU_C (s : ASt) (l : List Int) : credU s (waits s l) 4 = (findC (canP s l)).2 := by
  have e1 : canP s l 1 = (waits s l 1 && decide (0 < s.c1)) := by simp [canP, ASt.cred, Bool.and_comm]
  have e2 : canP s l 2 = (waits s l 2 && decide (0 < s.c2)) := by simp [canP, ASt.cred, Bool.and_comm]
  have e3 : canP s l 3 = (waits s l 3 && decide (0 < s.c3)) := by simp [canP, ASt.cred, Bool.and_comm]
  have h : credU s (waits s l) 4 = (canP s l 1 || canP s l 2 || canP s l 3) := by simp [credU, e1, e2, e3]
  rw [h]
  unfold findC
  cases canP s l 1 <;> cases canP s l 2 <;> cases canP s l 3 <;> rfl
theorem find_any {s : ASt} {l : List Int} (h : (findC (canP s l)).2 = true) : anyC (waits s l) = true := by
  obtain ⟨h1, h2⟩ := findC_spec h
  simp only [canP, Bool.and_eq_true] at h2
  have h2 := h2.2
  unfold anyC
  rcases h1 with e | e | e <;> rw [e] at h2 <;> simp [h2]
theorem ch_none {s : ASt} {l : List Int} (w0 : waits s l 0 = false) (ha : anyU (waits s l) 4 = false) : chooseR s l = (0, false, s) := by
  rw [anyU_C] at ha
  unfold chooseR
  rw [w0, ha]
  cases hf : (findC (canP s l)).2 with
  | false => rfl
  | true => rw [find_any hf] at ha; cases ha
theorem ch_cred {s : ASt} {l : List Int} (w0 : waits s l 0 = false) (hc : credU s (waits s l) 4 = true) : chooseR s l = ((findC (canP s l)).1, true, s) ∧ (findC (canP s l)).2 = true := by
  rw [credU_C] at hc
  refine ⟨?_, hc⟩
  unfold chooseR
  rw [w0, hc]; rfl
theorem ch_ref {s : ASt} {l : List Int} (hs : CredOk s) (w0 : waits s l 0 = false) (ha : anyU (waits s l) 4 = true) (hc : credU s (waits s l) 4 = false) :
    chooseR s l = ((findC (canP s.refill l)).1, true, s.refill) ∧ (findC (canP s.refill l)).2 = true := by
  rw [credU_C] at hc
  rw [anyU_C] at ha
  have hf : (findC (canP s.refill l)).2 = true := by
    rw [← credU_C]
    have hw : ∀ c, waits s.refill l c = waits s l c := fun _ => rfl
    have key : ∀ c, c ≠ 0 → waits s l c = true → CB s := fun c hc h => hs (waits_w hc h)
    simp only [anyC, Bool.or_eq_true] at ha
    simp only [credU, hw]
    rcases ha with (ha | ha) | ha
    · have := key 1 (by decide) ha
      simp only [CB] at this
      have h0 : 0 < s.hi := by omega
      simp [ha, ASt.refill, h0]
    · have := key 2 (by decide) ha
      simp only [CB] at this
      have h0 : 0 < s.me := by omega
      simp [ha, ASt.refill, h0]
    · have := key 3 (by decide) ha
      simp only [CB] at this
      have h0 : 0 < s.lo := by omega
      simp [ha, ASt.refill, h0]
  refine ⟨?_, hf⟩
  unfold chooseR
  rw [w0, hc, ha, hf]; rfl
/-- What the reference's loop has found among the first i queues. -/
def BestAt (s : ASt) (Q ld : Ld) (c : Int) (i : Nat) (b : Int) : Prop :=
  (b = -1 ∧ candL s Q ld c i = []) ∨ ∃ k, ∃ hk : k < Q.length, b = k ∧ candL s Q ld c i ≠ [] ∧ Q[k].1 = nextQ s c (candL s Q ld c i)
theorem BestAt.no {s : ASt} {Q ld : Ld} {c : Int} {i : Nat} {b : Int} (h : BestAt s Q ld c i b) (hi : i < Q.length) (hn : ¬ (0 < wv ld Q[i].1 ∧ clsQ s Q[i] = c)) : BestAt s Q ld c (i + 1) b := by
  unfold BestAt at h ⊢
  rw [cand_no hi hn]; exact h
theorem BestAt.first {s : ASt} {Q ld : Ld} {c : Int} {i : Nat} {b : Int} (h : BestAt s Q ld c i b) (hi : i < Q.length) (h1 : 0 < wv ld Q[i].1) (h2 : clsQ s Q[i] = c) (hb : b < 0) : BestAt s Q ld c (i + 1) i := by
  rcases h with ⟨_, h⟩ | ⟨k, _, h, _⟩
  · refine .inr ⟨i, hi, rfl, ?_, ?_⟩
    · rw [cand_yes hi h1 h2, h]; simp
    · rw [cand_yes hi h1 h2, next_snoc, if_pos h]
  · omega
theorem BestAt.better {s : ASt} {Q ld : Ld} {c : Int} {i k : Nat} (h : BestAt s Q ld c i k) (hi : i < Q.length) (h1 : 0 < wv ld Q[i].1) (h2 : clsQ s Q[i] = c) (hk : k < Q.length) :
    BestAt s Q ld c (i + 1) (if Q[k].1 ≤ s.last c ∧ s.last c < Q[i].1 then (i : Int) else k) := by
  rcases h with ⟨h, _⟩ | ⟨k', hk', e, h3, h4⟩
  · omega
  · have : k' = k := by omega
    subst this
    refine .inr ?_
    have hne : candL s Q ld c (i + 1) ≠ [] := by rw [cand_yes hi h1 h2]; simp
    split
    · rename_i hc
      refine ⟨i, hi, rfl, hne, ?_⟩
      rw [cand_yes hi h1 h2, next_snoc, if_neg h3, if_pos (by rw [← h4]; exact hc)]
    · rename_i hc
      refine ⟨k', hk, rfl, hne, ?_⟩
      rw [cand_yes hi h1 h2, next_snoc, if_neg h3, if_neg (by rw [← h4]; exact hc)]; exact h4
set_option maxHeartbeats 4000000 in
theorem refpick_hc (s : ASt) (hs : CredOk s) (Q ld : Ld) (hQ : QOk s Q) (cap off capL : Nat) (hlq : Q.length < 1000000) (hld : ld.length < 1000000) :
    HC Try.prog 41 [refV s 0 Q.length, .sq 1 off 0 2 ld.length .no] [] (ldH Q ld cap off capL) 2 (fun z : PR => (¬ LdOk s ld ∧ z = ⟨0, 0, 2, s⟩) ∨ (LdOk s ld ∧ z = pickR s (lQ Q ld) (wv ld)))
      (fun z => ⟨.tup [refV z.s 0 Q.length, i64 z.q, i64 z.n, i64 z.e], [], 2⟩) := by
  refine hc_of_run Try.func41 rfl (fun B hB hpin => ?_)
  refine goK hB s2_ok rfl rfl (by simp [conj]; omega) ?_
  refine run_loop ?_
  refine run_inv (ι := Nat) hpin (fun i => i ≤ ld.length ∧ ∀ j (hj : j < ld.length), j < i → LdAt s ld j hj) (fun i => ld.length - i)
    (fun i => [(1, .sq 1 off 0 2 ld.length .no), (2, .ptr 2 0), (4, .ptr 3 0), (5, i64 0), (6, i64 0), (7, i64 0), (8, .sq 4 0 0 1 Q.length .no), (9, .sq 5 0 0 1 Q.length .no), (10, i64 i)]) (fun _ => [])
    (fun i => [(2, .cells (refL s 0 Q.length .no) 49), (3, .cells [.ff, i64 0, i64 0, i64 0, i64 0, .nilsl, i64 0, i64 0, i64 0, i64 0, i64 0, i64 0, i64 0, i64 0] 49), (4, .row 0 Q.length Q.length 1 (nr .i64 fun k => wv (ld.take i) (Q.getD k (0, 0)).1) 3), (5, .row 0 Q.length Q.length 1 (br fun k => hasQ (ld.take i) (Q.getD k (0, 0)).1) 4)]) 6 0 ⟨Nat.zero_le _, fun j _ hj => absurd hj (Nat.not_lt_zero _)⟩
    [0, 1, 2, 3, 4, 5] rfl rfl (by
      simp [conj, less_rfl, ren_ldr, ren_nr, ren_br]
      exact ⟨fun i _ β x h => h, fun i _ β x h => h⟩) ?_
  rintro i ⟨h1, h2⟩ ih
  refine goK hB s2_ok rfl rfl (by simp [conj]) ?_
  refine run_cond rfl (fun h => ?_) (fun h => ?_)
  · have hi : i < ld.length := by simpa using h
    have ih := ih (i + 1)
    have eg : List.getD ld (0 + (i : Int).toNat) (0, 0) = ld[i] := by simp [hi]
    refine goK hB s2_ok rfl rfl (by simp [conj]) ?_
    refine run_draw0 mixed (fun t => ?_)
    rcases Nat.eq_zero_or_pos Q.length with hz | hz
    · have hnil : Q = [] := List.length_eq_zero_iff.1 hz
      subst hnil
      clear ih
      refine run_drawR (M := modeK s2) 8 named hB s2_ok [(12, rcAt0 s ld[i].1)] ⟨⟨at0_hc s ld[i].1, rfl, Nat.le_refl _⟩, trivial⟩ rfl rfl rfl rfl rfl rfl (by simp [conj, less_rfl, ren_ldr, hi, SO.Live]) (fun t => ?_)
      refine run_drawE rfl ?_
      refine goK hB s2_ok rfl rfl (by simp [conj]) ?_
      refine run_condT rfl rfl ?_
      refine goK hB s2_ok rfl rfl (by simp [conj]) ?_
      refine run_retC hpin ⟨0, 0, 2, s⟩ (.inl ⟨fun hok => ?_, rfl⟩) [0, 1] rfl rfl (by simp [conj]) rfl (by simp [conj, less_rfl, ren_ldr])
      have := (hok i hi).1
      rw [hQ.h] at this
      simp [hasQ] at this
    refine run_drawR (M := modeK s2) 8 named hB s2_ok [(12, rcAt s Q cap ld[i].1 [0])] ⟨⟨at_hc s Q cap hlq ld[i].1, rfl, Nat.le_refl _⟩, trivial⟩ rfl rfl rfl rfl rfl rfl (by simp [conj, less_rfl, ren_ldr, hi, SO.Live]; exact .inl hz) (fun t => ?_)
    refine run_drawE rfl ?_
    have hA := atF_spec Q ld[i].1
    refine goK hB s2_ok rfl rfl (by
      rcases hA with ⟨e, _⟩ | ⟨k, hk, e, _⟩
      · simp [conj, e]
      · simp [conj, e, hi]; omega) ?_
    refine run_cond rfl (fun hq => ?_) (fun hq => ?_)
    · clear ih
      refine goK hB s2_ok rfl rfl (by simp [conj]) ?_
      refine run_retC hpin ⟨0, 0, 2, s⟩ (.inl ⟨fun hok => ?_, rfl⟩) [0, 1] rfl rfl (by simp [conj]) rfl (by simp [conj, less_rfl, ren_ldr])
      obtain ⟨a1, a2, a3⟩ := hok i hi
      rw [hQ.h] at a1
      rcases hA with ⟨e, hn⟩ | ⟨k, hk, e, hkq⟩
      · rw [hn] at a1; cases a1
      · rw [e] at hq
        simp [hk, hi, hkq, a2] at hq
        omega
    · have hA2 : ∃ k, ∃ hk : k < Q.length, atF Q ld[i].1 = k ∧ Q[k].1 = ld[i].1 := by
        rcases hA with ⟨e, hn⟩ | h
        · rw [e] at hq; simp at hq
        · exact h
      obtain ⟨k, hk, e, hkq⟩ := hA2
      clear hA
      rw [e] at hq ⊢
      have hat : LdAt s ld i hi := by
        simp [hk, hi, hkq] at hq
        exact ⟨by rw [hQ.h, hasQ_iff]; exact ⟨Q[k], List.getElem_mem hk, hkq⟩, hq.2, hq.1⟩
      have htk : ld.take (i + 1) = ld.take i ++ [ld[i]] := List.take_succ_eq_append_getElem hi
      have ih := ih ⟨by omega, fun j hj hji => by
        rcases Nat.lt_or_ge j i with q | q
        · exact h2 j hj q
        · have : j = i := by omega
          subst this; exact hat⟩ (by omega)
      refine goK hB s2_ok rfl rfl (by simp [conj, Fits_i64, hi, hk]; omega) ?_
      refine run_back ?_
      refine run_to hpin [0, 1, 2, 3, 4, 5] rfl rfl ?_ ih
      clear ih
      simp [conj, less_rfl, ren_ldr, ren_nr, ren_br, updF_nr, updF_br, hi]
      have key : ∀ j, j < Q.length → ((Q[j]?.getD (0, 0)).1 = ld[i].1 ↔ j = k) := fun j hj => by
        simp only [List.getElem?_eq_getElem hj, Option.getD_some]
        constructor
        · intro q; exact hQ.inj hj hk (q.trans hkq.symm)
        · rintro rfl; exact hkq
      refine ⟨fun j hj => Less.of ?_, fun j hj => ?_⟩
      · have hk2 := key j hj
        simp only [nr, htk]
        rw [wv_snoc _ _ _ hat.2.1]
        by_cases q : j = k
        · rw [if_pos (hk2.2 q), if_pos q]
        · rw [if_neg (fun x => q (hk2.1 x)), if_neg q]
      · have hk2 := key j hj
        by_cases q : j = k
        · rw [if_pos q]
          intro β x hx
          have hx : x = .bool true := hx
          show x = .bool (hasQ (ld.take (i + 1)) _)
          rw [htk, hasQ_snoc, hx]
          simp [ieq, hk2.2 q]
        · rw [if_neg q]
          refine Less.of ?_
          simp only [br, htk]
          rw [hasQ_snoc]
          have : ¬ (Q[j]?.getD (0, 0)).1 = ld[i].1 := fun x => q (hk2.1 x)
          simp [ieq, this]
  · have hi : i = ld.length := by simp at h; omega
    subst hi
    clear ih
    have hok : LdOk s ld := fun j hj => h2 j hj hj
    rw [List.take_length]
    generalize hW : waits s (lQ Q ld) = W
    have hWQ : ∀ c, waitsQ s Q (fun k => wv ld (Q.getD k (0, 0)).1) c Q.length = W c := fun c => by
      rw [← hW]; exact waits_eq hQ (fun i hi => by simp [hi]) c
    have hcall := fun c => rwaits_hc s Q cap Q.length hlq (fun k => wv ld (Q.getD k (0, 0)).1) c
    simp only [hWQ] at hcall
    apply run_shareA (P := Try.prog) (ro := ldH Q ld cap off capL) (B := B) (f := 41) (fun (z : ASt × Int) N TD => ⟨⟨fid 41, N, [(1, .sq 1 off 0 2 ld.length .no), (2, .ptr 2 0), (4, .ptr 3 0), (5, i64 0), (6, i64 0), (7, i64 0), (8, .sq 4 0 0 1 Q.length .no), (9, .sq 5 0 0 1 Q.length .no), (15, i64 z.2), (16, i64 (-1)), (17, i64 0)], TD⟩, [],
      [(2, .cells (refL z.1 0 Q.length .no) 49), (3, .cells [.ff, i64 0, i64 0, i64 0, i64 0, .nilsl, i64 0, i64 0, i64 0, i64 0, i64 0, i64 0, i64 0, i64 0] 49), (4, .row 0 Q.length Q.length 1 (nr .i64 fun k => wv ld (Q.getD k (0, 0)).1) 3), (5, .row 0 Q.length Q.length 1 (br fun k => hasQ ld (Q.getD k (0, 0)).1) 4)], 6⟩)
      (fun z => C4 z.2 ∧ (z.2 ≠ 0 → 0 < z.1.cred z.2) ∧ CredOk z.1 ∧ QOk z.1 Q ∧ waits z.1 (lQ Q ld) z.2 = true ∧ pickR s (lQ Q ld) (wv ld) = pickC z.1 z.2 (keepL z.1 z.2 (lQ Q ld)) (wv ld))
    · intro join
      refine goK hB s2_ok rfl rfl (by simp [conj]) ?_
      refine run_loop ?_
      refine run_inv (ι := Nat) hpin (fun c => 1 ≤ c ∧ c ≤ 4) (fun c => 4 - c)
        (fun c => [(1, .sq 1 off 0 2 ld.length .no), (2, .ptr 2 0), (4, .ptr 3 0), (5, i64 0), (6, i64 0), (7, i64 0), (8, .sq 4 0 0 1 Q.length .no), (9, .sq 5 0 0 1 Q.length .no), (12, .sb (anyU W c)), (13, .sb (credU s W c)), (14, i64 c)]) (fun _ => [])
        (fun c => [(2, .cells (refL s 0 Q.length .no) 49), (3, .cells [.ff, i64 0, i64 0, i64 0, i64 0, .nilsl, i64 0, i64 0, i64 0, i64 0, i64 0, i64 0, i64 0, i64 0] 49), (4, .row 0 Q.length Q.length 1 (nr .i64 fun k => wv ld (Q.getD k (0, 0)).1) 3), (5, .row 0 Q.length Q.length 1 (br fun k => hasQ ld (Q.getD k (0, 0)).1) 4)]) 6 1 ⟨by decide, by decide⟩
        [0, 1, 2, 3, 4, 5] rfl rfl (by simp [conj, less_rfl, ren_ldr, ren_nr, ren_br, anyU, credU]) ?_
      rintro c ⟨c1, c2⟩ ih
      have hc' : c = 4 ∨ c = 1 ∨ c = 2 ∨ c = 3 := by omega
      rcases hc' with e | hc'
      · subst e
        clear ih
        refine goK hB s2_ok rfl rfl (by simp [conj]) ?_
        refine run_condF rfl (by decide) ?_
        refine goK hB s2_ok rfl rfl (by simp [conj]) ?_
        refine run_callC (hcall 0) named hB [0, 4] rfl rfl rfl rfl (by simp [conj]) (by simp [conj, less_rfl, ren_ldr, ren_nr, renR_nr]) ?_
        rintro ⟨⟩ _
        refine ⟨show 2 ≤ 2 by omega, _, _, _, rfl, rfl, rfl, ?_⟩
        refine goK hB s2_ok rfl rfl (by simp [conj]) ?_
        refine run_cond rfl (fun w0 => ?_) (fun w0 => ?_)
        · have w0 : W 0 = false := by simpa using w0
          refine goK hB s2_ok rfl rfl (by simp [conj]) ?_
          refine run_cond rfl (fun ha => ?_) (fun ha => ?_)
          · have ha : anyU W 4 = false := by simpa using ha
            have hch := ch_none (hW.symm ▸ w0) (hW.symm ▸ ha)
            refine goK hB s2_ok rfl rfl (by simp [conj]) ?_
            exact run_retC hpin ⟨0, 0, 9, s⟩ (.inr ⟨hok, by simp [pickR, hch]⟩) [0, 1] rfl rfl (by simp [conj]) rfl (by simp [conj, less_rfl, ren_ldr])
          have ha : anyU W 4 = true := by simpa using ha
          apply run_shareA (P := Try.prog) (ro := ldH Q ld cap off capL) (B := B) (f := 41) (fun (s' : ASt) N TD => ⟨⟨fid 41, N, [(1, .sq 1 off 0 2 ld.length .no), (2, .ptr 2 0), (4, .ptr 3 0), (5, i64 0), (6, i64 0), (7, i64 0), (8, .sq 4 0 0 1 Q.length .no), (9, .sq 5 0 0 1 Q.length .no), (15, i64 1)], TD⟩, [],
            [(2, .cells (refL s' 0 Q.length .no) 49), (3, .cells [.ff, i64 0, i64 0, i64 0, i64 0, .nilsl, i64 0, i64 0, i64 0, i64 0, i64 0, i64 0, i64 0, i64 0] 49), (4, .row 0 Q.length Q.length 1 (nr .i64 fun k => wv ld (Q.getD k (0, 0)).1) 3), (5, .row 0 Q.length Q.length 1 (br fun k => hasQ ld (Q.getD k (0, 0)).1) 4)], 6⟩)
            (fun s' => chooseR s (lQ Q ld) = ((findC (canP s' (lQ Q ld))).1, true, s') ∧ (findC (canP s' (lQ Q ld))).2 = true ∧ CredOk s' ∧ QOk s' Q ∧ waits s' (lQ Q ld) = W)
          · intro go
            refine goK hB s2_ok rfl rfl (by simp [conj]) ?_
            refine run_cond rfl (fun hc => ?_) (fun hc => ?_)
            · have hc : credU s W 4 = false := by simpa using hc
              obtain ⟨g1, g2⟩ := ch_ref hs (hW.symm ▸ w0) (hW.symm ▸ ha) (hW.symm ▸ hc)
              refine goK hB s2_ok rfl rfl (by simp [conj]) ?_
              refine run_to hpin [0, 1, 2, 3, 4, 5] rfl rfl ?_ (go s.refill ⟨g1, g2, credOk_refill hs, hQ.same rfl rfl, hW⟩)
              simp [conj, less_rfl, ren_ldr, ren_nr, ren_br, ASt.refill]
            · have hc : credU s W 4 = true := by simpa using hc
              obtain ⟨g1, g2⟩ := ch_cred (hW.symm ▸ w0) (hW.symm ▸ hc)
              refine goK hB s2_ok rfl rfl (by simp [conj]) ?_
              refine run_to hpin [0, 1, 2, 3, 4, 5] rfl rfl ?_ (go s ⟨g1, g2, hs, hQ, hW⟩)
              simp [conj, less_rfl, ren_ldr, ren_nr, ren_br]
          · rintro s' ⟨hch, hf, hcs, hQ', hW'⟩
            have hWQ' : ∀ c, waitsQ s' Q (fun k => wv ld (Q.getD k (0, 0)).1) c Q.length = W c := fun c => by
              rw [← hW']; exact waits_eq hQ' (fun i hi => by simp [hi]) c
            have hcall' := fun c => rwaits_hc s' Q cap Q.length hlq (fun k => wv ld (Q.getD k (0, 0)).1) c
            simp only [hWQ'] at hcall'
            have hpos : ∀ c, c ≠ 0 → W c = true → CB s' := fun c h1 h2 => hcs (waits_w (l := lQ Q ld) h1 (by rw [hW']; exact h2))
            have hcan : ∀ c, canP s' (lQ Q ld) c = (decide (0 < s'.cred c) && W c) := fun c => by unfold canP; rw [hW']
            have hjoin : ∀ c, C3 c → canP s' (lQ Q ld) c = true → (findC (canP s' (lQ Q ld))).1 = c → C4 c ∧ (c ≠ 0 → 0 < s'.cred c) ∧ CredOk s' ∧ QOk s' Q ∧ waits s' (lQ Q ld) c = true ∧ pickR s (lQ Q ld) (wv ld) = pickC s' c (keepL s' c (lQ Q ld)) (wv ld) := by
              intro c h3 h4 h5
              rw [hcan] at h4
              simp only [Bool.and_eq_true, decide_eq_true_eq] at h4
              exact ⟨.inr h3, fun _ => h4.1, hcs, hQ', by rw [hW']; exact h4.2, by simp [pickR, hch, h5]⟩
            refine run_loop ?_
            refine goK hB s2_ok rfl rfl (by simp [conj]) ?_
            refine run_callC (hcall' 1) named hB [0, 4] rfl rfl rfl rfl (by simp [conj]) (by simp [conj, less_rfl, ren_ldr, ren_nr, renR_nr]) ?_
            rintro ⟨⟩ _
            refine ⟨show 2 ≤ 2 by omega, _, _, _, rfl, rfl, rfl, ?_⟩
            refine goK hB s2_ok rfl rfl (by simp [conj]) ?_
            refine run_cond rfl (fun n1 => ?_) (fun n1 => ?_)
            rotate_left
            · have a1 : canP s' (lQ Q ld) 1 = true := by
                rw [hcan]
                simp at n1
                have := hpos 1 (by decide) n1.1
                simp only [CB] at this
                have h0 : 0 < s'.c1 := by omega
                simp [n1.1, ASt.cred, h0]
              refine goK hB s2_ok rfl rfl (by simp [conj]) ?_
              refine run_to hpin [0, 1, 2, 3, 4, 5] rfl rfl ?_ (join (s', 1) (hjoin 1 (.inl rfl) a1 (by simp [findC, a1])))
              simp [conj, less_rfl, ren_ldr, ren_nr, ren_br]
            have a1 : canP s' (lQ Q ld) 1 = false := by
              rw [hcan]
              simp at n1
              rcases n1 with n1 | n1 <;> simp [ASt.cred, n1]
            refine goK hB s2_ok rfl rfl (by simp [conj, Fits_i64]) ?_
            refine run_back ?_
            refine goK hB s2_ok rfl rfl (by simp [conj]) ?_
            refine run_callC (hcall' 2) named hB [0, 4] rfl rfl rfl rfl (by simp [conj]) (by simp [conj, less_rfl, ren_ldr, ren_nr, renR_nr]) ?_
            rintro ⟨⟩ _
            refine ⟨show 2 ≤ 2 by omega, _, _, _, rfl, rfl, rfl, ?_⟩
            refine goK hB s2_ok rfl rfl (by simp [conj]) ?_
            refine run_cond rfl (fun n2 => ?_) (fun n2 => ?_)
            rotate_left
            · have a2 : canP s' (lQ Q ld) 2 = true := by
                rw [hcan]
                simp at n2
                have := hpos 2 (by decide) n2.1
                simp only [CB] at this
                have h0 : 0 < s'.c2 := by omega
                simp [n2.1, ASt.cred, h0]
              refine goK hB s2_ok rfl rfl (by simp [conj]) ?_
              refine run_to hpin [0, 1, 2, 3, 4, 5] rfl rfl ?_ (join (s', 2) (hjoin 2 (.inr (.inl rfl)) a2 (by simp [findC, a1, a2])))
              simp [conj, less_rfl, ren_ldr, ren_nr, ren_br]
            have a2 : canP s' (lQ Q ld) 2 = false := by
              rw [hcan]
              simp at n2
              rcases n2 with n2 | n2 <;> simp [ASt.cred, n2]
            refine goK hB s2_ok rfl rfl (by simp [conj, Fits_i64]) ?_
            refine run_back ?_
            refine goK hB s2_ok rfl rfl (by simp [conj]) ?_
            refine run_callC (hcall' 3) named hB [0, 4] rfl rfl rfl rfl (by simp [conj]) (by simp [conj, less_rfl, ren_ldr, ren_nr, renR_nr]) ?_
            rintro ⟨⟩ _
            refine ⟨show 2 ≤ 2 by omega, _, _, _, rfl, rfl, rfl, ?_⟩
            refine goK hB s2_ok rfl rfl (by simp [conj]) ?_
            refine run_cond rfl (fun n3 => ?_) (fun n3 => ?_)
            rotate_left
            · have a3 : canP s' (lQ Q ld) 3 = true := by
                rw [hcan]
                simp at n3
                have := hpos 3 (by decide) n3.1
                simp only [CB] at this
                have h0 : 0 < s'.c3 := by omega
                simp [n3.1, ASt.cred, h0]
              refine goK hB s2_ok rfl rfl (by simp [conj]) ?_
              refine run_to hpin [0, 1, 2, 3, 4, 5] rfl rfl ?_ (join (s', 3) (hjoin 3 (.inr (.inr rfl)) a3 (by simp [findC, a1, a2, a3])))
              simp [conj, less_rfl, ren_ldr, ren_nr, ren_br]
            have a3 : canP s' (lQ Q ld) 3 = false := by
              rw [hcan]
              simp at n3
              rcases n3 with n3 | n3 <;> simp [ASt.cred, n3]
            simp [findC, a1, a2, a3] at hf
        · have w0 : W 0 = true := by simpa using w0
          refine goK hB s2_ok rfl rfl (by simp [conj]) ?_
          have hch : chooseR s (lQ Q ld) = (0, true, s) := by simp [chooseR, hW, w0]
          refine run_to hpin [0, 1, 2, 3, 4, 5] rfl rfl ?_ (join (s, 0) ⟨.inl rfl, fun h => absurd rfl h, hs, hQ, by rw [hW]; exact w0, by simp [pickR, hch]⟩)
          simp [conj, less_rfl, ren_ldr, ren_nr, ren_br]
      have ih := ih (c + 1) ⟨by omega, by omega⟩ (by omega)
      rcases hc' with e | e | e
      all_goals
        subst e
        refine goK hB s2_ok rfl rfl (by simp [conj]) ?_
        refine run_condT rfl (by decide) ?_
        refine goK hB s2_ok rfl rfl (by simp [conj]) ?_
        refine run_callC (hcall _) named hB [0, 4] rfl rfl rfl rfl (by simp [conj]) (by simp [conj, less_rfl, ren_ldr, ren_nr, renR_nr]; rfl) ?_
        rintro ⟨⟩ _
        refine ⟨show 2 ≤ 2 by omega, _, _, _, rfl, rfl, rfl, ?_⟩
        refine goK hB s2_ok rfl rfl (by simp [conj]) ?_
        refine run_cond rfl (fun hw => ?_) (fun hw => ?_)
        · refine goK hB s2_ok rfl rfl (by simp [conj, Fits_i64]) ?_
          refine run_back ?_
          refine run_to hpin [0, 1, 2, 3, 4, 5] rfl rfl ?_ ih
          clear ih
          simp [conj, less_rfl, ren_ldr, ren_nr, ren_br, anyU, credU, hw]
        · refine goK hB s2_ok rfl rfl (by simp [conj, Fits_i64]) ?_
          refine run_back ?_
          refine run_to hpin [0, 1, 2, 3, 4, 5] rfl rfl ?_ ih
          clear ih
          simp [conj, less_rfl, ren_ldr, ren_nr, ren_br, anyU, credU, hw]
    · rintro ⟨s1, c⟩ ⟨hc, hcr, hcs, hQ1, hw, hz⟩
      dsimp only at hc hcr hcs hQ1 hw hz
      have hne := waits_keep hw
      have hN : ∀ i (hi : i < Q.length), wv ld (Q.getD i (0, 0)).1 = wv ld Q[i].1 := fun i hi => by simp [hi]
      have hnn := fun a => wv_nonneg hok a
      rcases hc with rfl | rfl | rfl | rfl
      · refine run_loop ?_
        refine run_inv (ι := Nat × Int) hpin (fun x => x.1 ≤ Q.length ∧ BestAt s1 Q ld 0 x.1 x.2) (fun x => Q.length - x.1)
          (fun x => [(1, .sq 1 off 0 2 ld.length .no), (2, .ptr 2 0), (4, .ptr 3 0), (5, i64 0), (6, i64 0), (7, i64 0), (8, .sq 4 0 0 1 Q.length .no), (15, i64 0), (16, i64 x.2), (17, i64 x.1)]) (fun _ => [])
          (fun x => [(2, .cells (refL s1 0 Q.length .no) 49), (3, .cells [.ff, i64 0, i64 0, i64 0, i64 0, .nilsl, i64 0, i64 0, i64 0, i64 0, i64 0, i64 0, i64 0, i64 0] 49), (4, .row 0 Q.length Q.length 1 (nr .i64 fun k => wv ld (Q.getD k (0, 0)).1) 3)]) 5 (0, -1) ⟨Nat.zero_le _, .inl ⟨rfl, rfl⟩⟩
          [0, 1, 2, 3, 4] rfl rfl (by simp [conj, less_rfl, ren_ldr, ren_nr, ren_br]) ?_
        rintro ⟨i, b⟩ ⟨k1, k2⟩ ih
        dsimp only at k1 k2
        refine goK hB s2_ok rfl rfl (by simp [conj]) ?_
        refine run_cond rfl (fun h => ?_) (fun h => ?_)
        · have hi : i < Q.length := by simpa using h
          have eg : Q.getD i (0, 0) = Q[i] := by simp [hi]
          refine goK hB s2_ok rfl rfl (by simp [conj, hi]) ?_
          have ihno := fun hn => ih (i + 1, b) ⟨by show i + 1 ≤ Q.length; omega, k2.no hi hn⟩ (by show Q.length - (i + 1) < Q.length - i; omega)
          refine run_split 130 rfl (fun hn => ?_) (fun hn => ?_)
          · have hn : wv ld Q[i].1 = 0 := by simpa [hi] using hn
            have ihno := ihno (fun q => by omega)
            clear ih
            refine goK hB s2_ok rfl rfl (by simp [conj, Fits_i64]; omega) ?_
            refine run_back ?_
            refine run_to hpin [0, 1, 2, 3, 4] rfl rfl ?_ ihno
            simp [conj, less_rfl, ren_ldr, ren_nr]
          have hn : ¬ wv ld Q[i].1 = 0 := by simpa [hi] using hn
          have hn1 := hnn Q[i].1
          have hn2 : 0 < wv ld Q[i].1 := by omega
          refine run_callC (rclass_hc s1 Q cap i hi) named hB [0] rfl rfl rfl rfl (by simp [conj, hi, hn]) (by simp [conj, less_rfl, ren_ldr]) ?_
          rintro ⟨⟩ _
          refine ⟨show 1 ≤ 1 by omega, _, _, _, rfl, rfl, rfl, ?_⟩
          refine goK hB s2_ok rfl rfl (by simp [conj, hi, hn]) ?_
          refine run_cond rfl (fun hcl => ?_) (fun hcl => ?_)
          · have hcl : ¬ clsQ s1 Q[i] = 0 := by simpa [hi, hn] using hcl
            have ihno := ihno (fun q => hcl q.2)
            clear ih
            refine goK hB s2_ok rfl rfl (by simp [conj, Fits_i64]; omega) ?_
            refine run_back ?_
            refine run_to hpin [0, 1, 2, 3, 4] rfl rfl ?_ ihno
            simp [conj, less_rfl, ren_ldr, ren_nr]
          have hcl : clsQ s1 Q[i] = 0 := by simpa [hi, hn] using hcl
          clear ihno
          have k2' := k2
          rcases k2' with ⟨rfl, k3⟩ | ⟨k, hk, rfl, k3, k4⟩
          · have ih := ih (i + 1, (i : Int)) ⟨by show i + 1 ≤ Q.length; omega, k2.first hi hn2 hcl (by decide)⟩ (by show Q.length - (i + 1) < Q.length - i; omega)
            refine goK hB s2_ok rfl rfl (by simp [conj]) ?_
            refine run_condT rfl (by simp) ?_
            refine goK hB s2_ok rfl rfl (by simp [conj, Fits_i64]; omega) ?_
            refine run_back ?_
            refine run_to hpin [0, 1, 2, 3, 4] rfl rfl ?_ ih
            simp [conj, less_rfl, ren_ldr, ren_nr]
          have kb := k2.better hi hn2 hcl hk
          refine goK hB s2_ok rfl rfl (by simp [conj, hi, hk]) ?_
          refine run_cond rfl (fun hq => ?_) (fun hq => ?_)
          · have hq : Q[k].1 ≤ s1.last 0 ∧ s1.last 0 < Q[i].1 := by
              simp [hi, hk] at hq
              simp [ASt.last]; omega
            rw [if_pos hq] at kb
            have ih := ih (i + 1, (i : Int)) ⟨by show i + 1 ≤ Q.length; omega, kb⟩ (by show Q.length - (i + 1) < Q.length - i; omega)
            refine goK hB s2_ok rfl rfl (by simp [conj, Fits_i64]; omega) ?_
            refine run_back ?_
            refine run_to hpin [0, 1, 2, 3, 4] rfl rfl ?_ ih
            simp [conj, less_rfl, ren_ldr, ren_nr]
          · have hq : ¬ (Q[k].1 ≤ s1.last 0 ∧ s1.last 0 < Q[i].1) := by
              simp [hi, hk] at hq
              simp [ASt.last]; omega
            rw [if_neg hq] at kb
            have ih := ih (i + 1, (k : Int)) ⟨by show i + 1 ≤ Q.length; omega, kb⟩ (by show Q.length - (i + 1) < Q.length - i; omega)
            refine goK hB s2_ok rfl rfl (by simp [conj, Fits_i64]; omega) ?_
            refine run_back ?_
            refine run_to hpin [0, 1, 2, 3, 4] rfl rfl ?_ ih
            simp [conj, less_rfl, ren_ldr, ren_nr]
        · have hi : i = Q.length := by simp at h; omega
          subst hi
          clear ih
          have hall := cand_all (ld := ld) hQ1 0
          rcases k2 with ⟨_, k3⟩ | ⟨k, hk, rfl, k3, k4⟩
          · rw [hall] at k3; exact absurd k3 hne
          rw [hall] at k4
          have hgk : Q.getD k (0, 0) = Q[k] := by simp [hk]
          refine goK hB s2_ok rfl rfl (by simp [conj, hk]) ?_
          refine run_cond rfl (fun hb => ?_) (fun hb => ?_)
          all_goals
            refine goK hB s2_ok rfl rfl (by simp [conj]) ?_
            first | refine run_condF rfl (by decide) ?_ | refine run_condT rfl (by decide) ?_
            refine goK hB s2_ok rfl rfl (by simp [conj, hk]) ?_
            refine run_retC hpin (pickR s (lQ Q ld) (wv ld)) (.inr ⟨hok, rfl⟩) [0, 1] rfl rfl (by simp [conj]) rfl ?_
            rw [hz]
            first
              | (have hb2 : 0 < s1.b := by simpa using hb
                 simp [conj, less_rfl, ren_ldr, pickC, ← k4, capB, hb2, setLast, setCred, ASt.cred, hk]; done)
              | (have hb2 : ¬ 0 < s1.b := by simpa using hb
                 simp [conj, less_rfl, ren_ldr, pickC, ← k4, capB, hb2, setLast, setCred, ASt.cred, hk]; done)
      · refine run_loop ?_
        refine run_inv (ι := Nat × Int) hpin (fun x => x.1 ≤ Q.length ∧ BestAt s1 Q ld 1 x.1 x.2) (fun x => Q.length - x.1)
          (fun x => [(1, .sq 1 off 0 2 ld.length .no), (2, .ptr 2 0), (4, .ptr 3 0), (5, i64 0), (6, i64 0), (7, i64 0), (8, .sq 4 0 0 1 Q.length .no), (15, i64 1), (16, i64 x.2), (17, i64 x.1)]) (fun _ => [])
          (fun x => [(2, .cells (refL s1 0 Q.length .no) 49), (3, .cells [.ff, i64 0, i64 0, i64 0, i64 0, .nilsl, i64 0, i64 0, i64 0, i64 0, i64 0, i64 0, i64 0, i64 0] 49), (4, .row 0 Q.length Q.length 1 (nr .i64 fun k => wv ld (Q.getD k (0, 0)).1) 3)]) 5 (0, -1) ⟨Nat.zero_le _, .inl ⟨rfl, rfl⟩⟩
          [0, 1, 2, 3, 4] rfl rfl (by simp [conj, less_rfl, ren_ldr, ren_nr, ren_br]) ?_
        rintro ⟨i, b⟩ ⟨k1, k2⟩ ih
        dsimp only at k1 k2
        refine goK hB s2_ok rfl rfl (by simp [conj]) ?_
        refine run_cond rfl (fun h => ?_) (fun h => ?_)
        · have hi : i < Q.length := by simpa using h
          have eg : Q.getD i (0, 0) = Q[i] := by simp [hi]
          refine goK hB s2_ok rfl rfl (by simp [conj, hi]) ?_
          have ihno := fun hn => ih (i + 1, b) ⟨by show i + 1 ≤ Q.length; omega, k2.no hi hn⟩ (by show Q.length - (i + 1) < Q.length - i; omega)
          refine run_split 130 rfl (fun hn => ?_) (fun hn => ?_)
          · have hn : wv ld Q[i].1 = 0 := by simpa [hi] using hn
            have ihno := ihno (fun q => by omega)
            clear ih
            refine goK hB s2_ok rfl rfl (by simp [conj, Fits_i64]; omega) ?_
            refine run_back ?_
            refine run_to hpin [0, 1, 2, 3, 4] rfl rfl ?_ ihno
            simp [conj, less_rfl, ren_ldr, ren_nr]
          have hn : ¬ wv ld Q[i].1 = 0 := by simpa [hi] using hn
          have hn1 := hnn Q[i].1
          have hn2 : 0 < wv ld Q[i].1 := by omega
          refine run_callC (rclass_hc s1 Q cap i hi) named hB [0] rfl rfl rfl rfl (by simp [conj, hi, hn]) (by simp [conj, less_rfl, ren_ldr]) ?_
          rintro ⟨⟩ _
          refine ⟨show 1 ≤ 1 by omega, _, _, _, rfl, rfl, rfl, ?_⟩
          refine goK hB s2_ok rfl rfl (by simp [conj, hi, hn]) ?_
          refine run_cond rfl (fun hcl => ?_) (fun hcl => ?_)
          · have hcl : ¬ clsQ s1 Q[i] = 1 := by simpa [hi, hn] using hcl
            have ihno := ihno (fun q => hcl q.2)
            clear ih
            refine goK hB s2_ok rfl rfl (by simp [conj, Fits_i64]; omega) ?_
            refine run_back ?_
            refine run_to hpin [0, 1, 2, 3, 4] rfl rfl ?_ ihno
            simp [conj, less_rfl, ren_ldr, ren_nr]
          have hcl : clsQ s1 Q[i] = 1 := by simpa [hi, hn] using hcl
          clear ihno
          have k2' := k2
          rcases k2' with ⟨rfl, k3⟩ | ⟨k, hk, rfl, k3, k4⟩
          · have ih := ih (i + 1, (i : Int)) ⟨by show i + 1 ≤ Q.length; omega, k2.first hi hn2 hcl (by decide)⟩ (by show Q.length - (i + 1) < Q.length - i; omega)
            refine goK hB s2_ok rfl rfl (by simp [conj]) ?_
            refine run_condT rfl (by simp) ?_
            refine goK hB s2_ok rfl rfl (by simp [conj, Fits_i64]; omega) ?_
            refine run_back ?_
            refine run_to hpin [0, 1, 2, 3, 4] rfl rfl ?_ ih
            simp [conj, less_rfl, ren_ldr, ren_nr]
          have kb := k2.better hi hn2 hcl hk
          refine goK hB s2_ok rfl rfl (by simp [conj, hi, hk]) ?_
          refine run_cond rfl (fun hq => ?_) (fun hq => ?_)
          · have hq : Q[k].1 ≤ s1.last 1 ∧ s1.last 1 < Q[i].1 := by
              simp [hi, hk] at hq
              simp [ASt.last]; omega
            rw [if_pos hq] at kb
            have ih := ih (i + 1, (i : Int)) ⟨by show i + 1 ≤ Q.length; omega, kb⟩ (by show Q.length - (i + 1) < Q.length - i; omega)
            refine goK hB s2_ok rfl rfl (by simp [conj, Fits_i64]; omega) ?_
            refine run_back ?_
            refine run_to hpin [0, 1, 2, 3, 4] rfl rfl ?_ ih
            simp [conj, less_rfl, ren_ldr, ren_nr]
          · have hq : ¬ (Q[k].1 ≤ s1.last 1 ∧ s1.last 1 < Q[i].1) := by
              simp [hi, hk] at hq
              simp [ASt.last]; omega
            rw [if_neg hq] at kb
            have ih := ih (i + 1, (k : Int)) ⟨by show i + 1 ≤ Q.length; omega, kb⟩ (by show Q.length - (i + 1) < Q.length - i; omega)
            refine goK hB s2_ok rfl rfl (by simp [conj, Fits_i64]; omega) ?_
            refine run_back ?_
            refine run_to hpin [0, 1, 2, 3, 4] rfl rfl ?_ ih
            simp [conj, less_rfl, ren_ldr, ren_nr]
        · have hi : i = Q.length := by simp at h; omega
          subst hi
          clear ih
          have hall := cand_all (ld := ld) hQ1 1
          rcases k2 with ⟨_, k3⟩ | ⟨k, hk, rfl, k3, k4⟩
          · rw [hall] at k3; exact absurd k3 hne
          rw [hall] at k4
          have hgk : Q.getD k (0, 0) = Q[k] := by simp [hk]
          refine goK hB s2_ok rfl rfl (by simp [conj, hk]) ?_
          refine run_cond rfl (fun hb => ?_) (fun hb => ?_)
          all_goals
            refine goK hB s2_ok rfl rfl (by simp [conj]) ?_
            first | refine run_condF rfl (by decide) ?_ | refine run_condT rfl (by decide) ?_
            have g1 := hcs (waits_w (l := lQ Q ld) (by decide) hw)
            have g2 := hcr (by decide)
            have g3 := hnn Q[k].1
            simp only [CB] at g1
            simp [ASt.cred] at g2
            simp at hb
            refine goK hB s2_ok rfl rfl (by
              simp [conj, Fits_i64, hk]
              omega) ?_
            refine run_retC hpin (pickR s (lQ Q ld) (wv ld)) (.inr ⟨hok, rfl⟩) [0, 1] rfl rfl (by simp [conj]) rfl ?_
            rw [hz]
            first
              | (have hb2 : 0 < s1.b := by simpa using hb
                 simp [conj, less_rfl, ren_ldr, pickC, ← k4, capB, hb2, setLast, setCred, ASt.cred, hk]; done)
              | (have hb2 : ¬ 0 < s1.b := by simpa using hb
                 simp [conj, less_rfl, ren_ldr, pickC, ← k4, capB, hb2, setLast, setCred, ASt.cred, hk]; done)
      · refine run_loop ?_
        refine run_inv (ι := Nat × Int) hpin (fun x => x.1 ≤ Q.length ∧ BestAt s1 Q ld 2 x.1 x.2) (fun x => Q.length - x.1)
          (fun x => [(1, .sq 1 off 0 2 ld.length .no), (2, .ptr 2 0), (4, .ptr 3 0), (5, i64 0), (6, i64 0), (7, i64 0), (8, .sq 4 0 0 1 Q.length .no), (15, i64 2), (16, i64 x.2), (17, i64 x.1)]) (fun _ => [])
          (fun x => [(2, .cells (refL s1 0 Q.length .no) 49), (3, .cells [.ff, i64 0, i64 0, i64 0, i64 0, .nilsl, i64 0, i64 0, i64 0, i64 0, i64 0, i64 0, i64 0, i64 0] 49), (4, .row 0 Q.length Q.length 1 (nr .i64 fun k => wv ld (Q.getD k (0, 0)).1) 3)]) 5 (0, -1) ⟨Nat.zero_le _, .inl ⟨rfl, rfl⟩⟩
          [0, 1, 2, 3, 4] rfl rfl (by simp [conj, less_rfl, ren_ldr, ren_nr, ren_br]) ?_
        rintro ⟨i, b⟩ ⟨k1, k2⟩ ih
        dsimp only at k1 k2
        refine goK hB s2_ok rfl rfl (by simp [conj]) ?_
        refine run_cond rfl (fun h => ?_) (fun h => ?_)
        · have hi : i < Q.length := by simpa using h
          have eg : Q.getD i (0, 0) = Q[i] := by simp [hi]
          refine goK hB s2_ok rfl rfl (by simp [conj, hi]) ?_
          have ihno := fun hn => ih (i + 1, b) ⟨by show i + 1 ≤ Q.length; omega, k2.no hi hn⟩ (by show Q.length - (i + 1) < Q.length - i; omega)
          refine run_split 130 rfl (fun hn => ?_) (fun hn => ?_)
          · have hn : wv ld Q[i].1 = 0 := by simpa [hi] using hn
            have ihno := ihno (fun q => by omega)
            clear ih
            refine goK hB s2_ok rfl rfl (by simp [conj, Fits_i64]; omega) ?_
            refine run_back ?_
            refine run_to hpin [0, 1, 2, 3, 4] rfl rfl ?_ ihno
            simp [conj, less_rfl, ren_ldr, ren_nr]
          have hn : ¬ wv ld Q[i].1 = 0 := by simpa [hi] using hn
          have hn1 := hnn Q[i].1
          have hn2 : 0 < wv ld Q[i].1 := by omega
          refine run_callC (rclass_hc s1 Q cap i hi) named hB [0] rfl rfl rfl rfl (by simp [conj, hi, hn]) (by simp [conj, less_rfl, ren_ldr]) ?_
          rintro ⟨⟩ _
          refine ⟨show 1 ≤ 1 by omega, _, _, _, rfl, rfl, rfl, ?_⟩
          refine goK hB s2_ok rfl rfl (by simp [conj, hi, hn]) ?_
          refine run_cond rfl (fun hcl => ?_) (fun hcl => ?_)
          · have hcl : ¬ clsQ s1 Q[i] = 2 := by simpa [hi, hn] using hcl
            have ihno := ihno (fun q => hcl q.2)
            clear ih
            refine goK hB s2_ok rfl rfl (by simp [conj, Fits_i64]; omega) ?_
            refine run_back ?_
            refine run_to hpin [0, 1, 2, 3, 4] rfl rfl ?_ ihno
            simp [conj, less_rfl, ren_ldr, ren_nr]
          have hcl : clsQ s1 Q[i] = 2 := by simpa [hi, hn] using hcl
          clear ihno
          have k2' := k2
          rcases k2' with ⟨rfl, k3⟩ | ⟨k, hk, rfl, k3, k4⟩
          · have ih := ih (i + 1, (i : Int)) ⟨by show i + 1 ≤ Q.length; omega, k2.first hi hn2 hcl (by decide)⟩ (by show Q.length - (i + 1) < Q.length - i; omega)
            refine goK hB s2_ok rfl rfl (by simp [conj]) ?_
            refine run_condT rfl (by simp) ?_
            refine goK hB s2_ok rfl rfl (by simp [conj, Fits_i64]; omega) ?_
            refine run_back ?_
            refine run_to hpin [0, 1, 2, 3, 4] rfl rfl ?_ ih
            simp [conj, less_rfl, ren_ldr, ren_nr]
          have kb := k2.better hi hn2 hcl hk
          refine goK hB s2_ok rfl rfl (by simp [conj, hi, hk]) ?_
          refine run_cond rfl (fun hq => ?_) (fun hq => ?_)
          · have hq : Q[k].1 ≤ s1.last 2 ∧ s1.last 2 < Q[i].1 := by
              simp [hi, hk] at hq
              simp [ASt.last]; omega
            rw [if_pos hq] at kb
            have ih := ih (i + 1, (i : Int)) ⟨by show i + 1 ≤ Q.length; omega, kb⟩ (by show Q.length - (i + 1) < Q.length - i; omega)
            refine goK hB s2_ok rfl rfl (by simp [conj, Fits_i64]; omega) ?_
            refine run_back ?_
            refine run_to hpin [0, 1, 2, 3, 4] rfl rfl ?_ ih
            simp [conj, less_rfl, ren_ldr, ren_nr]
          · have hq : ¬ (Q[k].1 ≤ s1.last 2 ∧ s1.last 2 < Q[i].1) := by
              simp [hi, hk] at hq
              simp [ASt.last]; omega
            rw [if_neg hq] at kb
            have ih := ih (i + 1, (k : Int)) ⟨by show i + 1 ≤ Q.length; omega, kb⟩ (by show Q.length - (i + 1) < Q.length - i; omega)
            refine goK hB s2_ok rfl rfl (by simp [conj, Fits_i64]; omega) ?_
            refine run_back ?_
            refine run_to hpin [0, 1, 2, 3, 4] rfl rfl ?_ ih
            simp [conj, less_rfl, ren_ldr, ren_nr]
        · have hi : i = Q.length := by simp at h; omega
          subst hi
          clear ih
          have hall := cand_all (ld := ld) hQ1 2
          rcases k2 with ⟨_, k3⟩ | ⟨k, hk, rfl, k3, k4⟩
          · rw [hall] at k3; exact absurd k3 hne
          rw [hall] at k4
          have hgk : Q.getD k (0, 0) = Q[k] := by simp [hk]
          refine goK hB s2_ok rfl rfl (by simp [conj, hk]) ?_
          refine run_cond rfl (fun hb => ?_) (fun hb => ?_)
          all_goals
            refine goK hB s2_ok rfl rfl (by simp [conj]) ?_
            first | refine run_condF rfl (by decide) ?_ | refine run_condT rfl (by decide) ?_
            have g1 := hcs (waits_w (l := lQ Q ld) (by decide) hw)
            have g2 := hcr (by decide)
            have g3 := hnn Q[k].1
            simp only [CB] at g1
            simp [ASt.cred] at g2
            simp at hb
            refine goK hB s2_ok rfl rfl (by
              simp [conj, Fits_i64, hk]
              omega) ?_
            refine run_retC hpin (pickR s (lQ Q ld) (wv ld)) (.inr ⟨hok, rfl⟩) [0, 1] rfl rfl (by simp [conj]) rfl ?_
            rw [hz]
            first
              | (have hb2 : 0 < s1.b := by simpa using hb
                 simp [conj, less_rfl, ren_ldr, pickC, ← k4, capB, hb2, setLast, setCred, ASt.cred, hk]; done)
              | (have hb2 : ¬ 0 < s1.b := by simpa using hb
                 simp [conj, less_rfl, ren_ldr, pickC, ← k4, capB, hb2, setLast, setCred, ASt.cred, hk]; done)
      · refine run_loop ?_
        refine run_inv (ι := Nat × Int) hpin (fun x => x.1 ≤ Q.length ∧ BestAt s1 Q ld 3 x.1 x.2) (fun x => Q.length - x.1)
          (fun x => [(1, .sq 1 off 0 2 ld.length .no), (2, .ptr 2 0), (4, .ptr 3 0), (5, i64 0), (6, i64 0), (7, i64 0), (8, .sq 4 0 0 1 Q.length .no), (15, i64 3), (16, i64 x.2), (17, i64 x.1)]) (fun _ => [])
          (fun x => [(2, .cells (refL s1 0 Q.length .no) 49), (3, .cells [.ff, i64 0, i64 0, i64 0, i64 0, .nilsl, i64 0, i64 0, i64 0, i64 0, i64 0, i64 0, i64 0, i64 0] 49), (4, .row 0 Q.length Q.length 1 (nr .i64 fun k => wv ld (Q.getD k (0, 0)).1) 3)]) 5 (0, -1) ⟨Nat.zero_le _, .inl ⟨rfl, rfl⟩⟩
          [0, 1, 2, 3, 4] rfl rfl (by simp [conj, less_rfl, ren_ldr, ren_nr, ren_br]) ?_
        rintro ⟨i, b⟩ ⟨k1, k2⟩ ih
        dsimp only at k1 k2
        refine goK hB s2_ok rfl rfl (by simp [conj]) ?_
        refine run_cond rfl (fun h => ?_) (fun h => ?_)
        · have hi : i < Q.length := by simpa using h
          have eg : Q.getD i (0, 0) = Q[i] := by simp [hi]
          refine goK hB s2_ok rfl rfl (by simp [conj, hi]) ?_
          have ihno := fun hn => ih (i + 1, b) ⟨by show i + 1 ≤ Q.length; omega, k2.no hi hn⟩ (by show Q.length - (i + 1) < Q.length - i; omega)
          refine run_split 130 rfl (fun hn => ?_) (fun hn => ?_)
          · have hn : wv ld Q[i].1 = 0 := by simpa [hi] using hn
            have ihno := ihno (fun q => by omega)
            clear ih
            refine goK hB s2_ok rfl rfl (by simp [conj, Fits_i64]; omega) ?_
            refine run_back ?_
            refine run_to hpin [0, 1, 2, 3, 4] rfl rfl ?_ ihno
            simp [conj, less_rfl, ren_ldr, ren_nr]
          have hn : ¬ wv ld Q[i].1 = 0 := by simpa [hi] using hn
          have hn1 := hnn Q[i].1
          have hn2 : 0 < wv ld Q[i].1 := by omega
          refine run_callC (rclass_hc s1 Q cap i hi) named hB [0] rfl rfl rfl rfl (by simp [conj, hi, hn]) (by simp [conj, less_rfl, ren_ldr]) ?_
          rintro ⟨⟩ _
          refine ⟨show 1 ≤ 1 by omega, _, _, _, rfl, rfl, rfl, ?_⟩
          refine goK hB s2_ok rfl rfl (by simp [conj, hi, hn]) ?_
          refine run_cond rfl (fun hcl => ?_) (fun hcl => ?_)
          · have hcl : ¬ clsQ s1 Q[i] = 3 := by simpa [hi, hn] using hcl
            have ihno := ihno (fun q => hcl q.2)
            clear ih
            refine goK hB s2_ok rfl rfl (by simp [conj, Fits_i64]; omega) ?_
            refine run_back ?_
            refine run_to hpin [0, 1, 2, 3, 4] rfl rfl ?_ ihno
            simp [conj, less_rfl, ren_ldr, ren_nr]
          have hcl : clsQ s1 Q[i] = 3 := by simpa [hi, hn] using hcl
          clear ihno
          have k2' := k2
          rcases k2' with ⟨rfl, k3⟩ | ⟨k, hk, rfl, k3, k4⟩
          · have ih := ih (i + 1, (i : Int)) ⟨by show i + 1 ≤ Q.length; omega, k2.first hi hn2 hcl (by decide)⟩ (by show Q.length - (i + 1) < Q.length - i; omega)
            refine goK hB s2_ok rfl rfl (by simp [conj]) ?_
            refine run_condT rfl (by simp) ?_
            refine goK hB s2_ok rfl rfl (by simp [conj, Fits_i64]; omega) ?_
            refine run_back ?_
            refine run_to hpin [0, 1, 2, 3, 4] rfl rfl ?_ ih
            simp [conj, less_rfl, ren_ldr, ren_nr]
          have kb := k2.better hi hn2 hcl hk
          refine goK hB s2_ok rfl rfl (by simp [conj, hi, hk]) ?_
          refine run_cond rfl (fun hq => ?_) (fun hq => ?_)
          · have hq : Q[k].1 ≤ s1.last 3 ∧ s1.last 3 < Q[i].1 := by
              simp [hi, hk] at hq
              simp [ASt.last]; omega
            rw [if_pos hq] at kb
            have ih := ih (i + 1, (i : Int)) ⟨by show i + 1 ≤ Q.length; omega, kb⟩ (by show Q.length - (i + 1) < Q.length - i; omega)
            refine goK hB s2_ok rfl rfl (by simp [conj, Fits_i64]; omega) ?_
            refine run_back ?_
            refine run_to hpin [0, 1, 2, 3, 4] rfl rfl ?_ ih
            simp [conj, less_rfl, ren_ldr, ren_nr]
          · have hq : ¬ (Q[k].1 ≤ s1.last 3 ∧ s1.last 3 < Q[i].1) := by
              simp [hi, hk] at hq
              simp [ASt.last]; omega
            rw [if_neg hq] at kb
            have ih := ih (i + 1, (k : Int)) ⟨by show i + 1 ≤ Q.length; omega, kb⟩ (by show Q.length - (i + 1) < Q.length - i; omega)
            refine goK hB s2_ok rfl rfl (by simp [conj, Fits_i64]; omega) ?_
            refine run_back ?_
            refine run_to hpin [0, 1, 2, 3, 4] rfl rfl ?_ ih
            simp [conj, less_rfl, ren_ldr, ren_nr]
        · have hi : i = Q.length := by simp at h; omega
          subst hi
          clear ih
          have hall := cand_all (ld := ld) hQ1 3
          rcases k2 with ⟨_, k3⟩ | ⟨k, hk, rfl, k3, k4⟩
          · rw [hall] at k3; exact absurd k3 hne
          rw [hall] at k4
          have hgk : Q.getD k (0, 0) = Q[k] := by simp [hk]
          refine goK hB s2_ok rfl rfl (by simp [conj, hk]) ?_
          refine run_cond rfl (fun hb => ?_) (fun hb => ?_)
          all_goals
            refine goK hB s2_ok rfl rfl (by simp [conj]) ?_
            first | refine run_condF rfl (by decide) ?_ | refine run_condT rfl (by decide) ?_
            have g1 := hcs (waits_w (l := lQ Q ld) (by decide) hw)
            have g2 := hcr (by decide)
            have g3 := hnn Q[k].1
            simp only [CB] at g1
            simp [ASt.cred] at g2
            simp at hb
            refine goK hB s2_ok rfl rfl (by
              simp [conj, Fits_i64, hk]
              omega) ?_
            refine run_retC hpin (pickR s (lQ Q ld) (wv ld)) (.inr ⟨hok, rfl⟩) [0, 1] rfl rfl (by simp [conj]) rfl ?_
            rw [hz]
            first
              | (have hb2 : 0 < s1.b := by simpa using hb
                 simp [conj, less_rfl, ren_ldr, pickC, ← k4, capB, hb2, setLast, setCred, ASt.cred, hk]; done)
              | (have hb2 : ¬ 0 < s1.b := by simpa using hb
                 simp [conj, less_rfl, ren_ldr, pickC, ← k4, capB, hb2, setLast, setCred, ASt.cred, hk]; done)
end Sx
