/- What the calls keep; one theorem for a call. Conditions: as each theorem says. -/
import Derived.Test.YtkoeikjcnancdaaAr
set_option linter.unusedSimpArgs false
set_option linter.unusedVariables false
namespace Sx
open Go Go.Proofs
theorem mem_insQ {q c : Int} {p : Int × Int} : ∀ {Q : Ld}, p ∈ insQ q c Q ↔ p = (q, c) ∨ p ∈ Q
  | [] => by simp [insQ]
  | x :: r => by
    simp only [insQ]
    split
    · simp
    · rw [List.mem_cons, mem_insQ, List.mem_cons]
      constructor
      · rintro (h | h | h) <;> simp [h]
      · rintro (h | h | h) <;> simp [h]
theorem lt_insQ {q c : Int} : ∀ {Q : Ld}, (Q.map (·.1)).Pairwise (· < ·) → (∀ p ∈ Q, p.1 ≠ q) → ((insQ q c Q).map (·.1)).Pairwise (· < ·)
  | [], _, _ => by simp [insQ]
  | x :: r, h, hn => by
    have hx := List.pairwise_cons.1 h
    have hne := hn x (List.mem_cons_self ..)
    simp only [insQ]
    split
    · rename_i hq
      refine List.pairwise_cons.2 ⟨fun y hy => ?_, h⟩
      rcases List.mem_cons.1 hy with rfl | hy
      · exact hq
      · have : x.1 < y := hx.1 y hy
        show q < y; omega
    · rename_i hq
      refine List.pairwise_cons.2 ⟨fun y hy => ?_, lt_insQ hx.2 fun p hp => hn p (List.mem_cons_of_mem _ hp)⟩
      obtain ⟨p, hp, rfl⟩ := List.mem_map.1 hy
      rcases mem_insQ.1 hp with rfl | hp
      · show x.1 < q; omega
      · exact hx.1 _ (List.mem_map.2 ⟨p, hp, rfl⟩)
theorem hasQ_ins {q c : Int} {Q : Ld} {a : Int} : hasQ (insQ q c Q) a = (ieq a q || hasQ Q a) := by
  rw [Bool.eq_iff_iff, Bool.or_eq_true, hasQ_iff, hasQ_iff]
  unfold ieq
  constructor
  · rintro ⟨p, hp, rfl⟩
    rcases mem_insQ.1 hp with rfl | hp
    · exact .inl (by simp)
    · exact .inr ⟨p, hp, rfl⟩
  · rintro (h | ⟨p, hp, rfl⟩)
    · exact ⟨(q, c), mem_insQ.2 (.inl rfl), (by simpa using h : a = q).symm⟩
    · exact ⟨p, mem_insQ.2 (.inr hp), rfl⟩
theorem QOk.nil (w : Bool) (b hi me lo : Int) : QOk (aNew w b hi me lo) [] := ⟨by simp, fun _ => rfl, by simp, by simp, by simp⟩
theorem QOk.add {s : ASt} {Q : Ld} (h : QOk s Q) {q c : Int} (he : addE s q c = 0) : QOk (addS s q c) (insQ q c Q) := by
  have h1 : ¬ (q < 0 ∨ 65535 < q ∨ c < 0 ∨ 3 < c) := fun h => by simp [addE, h] at he
  have h2 : s.h q = false := by
    cases hb : s.h q with
    | false => rfl
    | true => simp [addE, h1, hb] at he
  have h3 : addS s q c = { s with h := fun a => ieq a q || s.h a, v := fun a => if a = q then c else s.v a } := by simp [addS, h1, h2]
  have hq : hasQ Q q = false := by rw [← h.h]; exact h2
  have hne : ∀ p ∈ Q, p.1 ≠ q := fun p hp e => by
    have := hasQ_iff.2 ⟨p, hp, e⟩
    rw [hq] at this; cases this
  rw [h3]
  refine ⟨lt_insQ h.lt hne, fun a => ?_, fun p hp => ?_, fun p hp => ?_, fun p hp => ?_⟩
  · show (ieq a q || s.h a) = _
    rw [hasQ_ins, h.h]
  · show (if p.1 = q then c else s.v p.1) = p.2
    rcases mem_insQ.1 hp with rfl | hp
    · simp
    · rw [if_neg (hne p hp)]; exact h.v p hp
  · rcases mem_insQ.1 hp with rfl | hp
    · show C4 c; unfold C4; omega
    · exact h.c p hp
  · rcases mem_insQ.1 hp with rfl | hp
    · show 0 ≤ q ∧ q ≤ 65535; omega
    · exact h.r p hp
theorem QOk.at {s : ASt} {Q : Ld} {q : Int} (h : hasQ Q q = true) : ∃ k, k < Q.length ∧ atF Q q = k ∧ ∃ hk : k < Q.length, Q[k].1 = q := by
  rcases atF_spec Q q with ⟨_, h1⟩ | ⟨k, hk, e, h1⟩
  · rw [h] at h1; cases h1
  · exact ⟨k, hk, e, hk, h1⟩
theorem QOk.rem {s : ASt} {Q : Ld} (h : QOk s Q) {q : Int} (he : remE s q = 0) : ∃ k, k < Q.length ∧ atF Q q = k ∧ QOk (remS s q) (Q.eraseIdx k) := by
  have h1 : ¬ (q < 0 ∨ 65535 < q) := fun h => by simp [remE, h] at he
  have h2 : s.h q = true := by
    cases hb : s.h q with
    | true => rfl
    | false => simp [remE, h1, hb] at he
  have h3 : remS s q = { s with h := fun a => s.h a && !ieq a q } := by simp [remS, h1, h2]
  rw [h.h] at h2
  obtain ⟨k, hk, e, _, hkq⟩ := QOk.at (s := s) h2
  refine ⟨k, hk, e, ?_⟩
  rw [h3]
  have hsub : ∀ p, p ∈ Q.eraseIdx k → p ∈ Q := fun p hp => List.mem_of_mem_eraseIdx hp
  have hmem : ∀ p, p ∈ Q.eraseIdx k ↔ p ∈ Q ∧ p.1 ≠ q := by
    intro p
    rw [List.mem_eraseIdx_iff_getElem]
    constructor
    · rintro ⟨i, hi, hne, rfl⟩
      refine ⟨List.getElem_mem hi, fun e2 => hne (h.inj hi hk (e2.trans hkq.symm))⟩
    · rintro ⟨hp, hne⟩
      obtain ⟨i, hi, rfl⟩ := List.mem_iff_getElem.1 hp
      exact ⟨i, hi, fun e2 => hne (by subst e2; exact hkq), rfl⟩
  refine ⟨?_, fun a => ?_, fun p hp => h.v p (hsub p hp), fun p hp => h.c p (hsub p hp), fun p hp => h.r p (hsub p hp)⟩
  · exact h.lt.sublist ((List.eraseIdx_sublist Q k).map _)
  · show (s.h a && !ieq a q) = _
    rw [h.h, Bool.eq_iff_iff, hasQ_iff]
    unfold ieq
    rw [Bool.and_eq_true, hasQ_iff]
    constructor
    · rintro ⟨⟨p, hp, rfl⟩, h5⟩
      exact ⟨p, (hmem p).2 ⟨hp, by simpa using h5⟩, rfl⟩
    · rintro ⟨p, hp, rfl⟩
      obtain ⟨h5, h6⟩ := (hmem p).1 hp
      exact ⟨⟨p, h5, rfl⟩, by simpa using h6⟩
theorem addE_or (s : ASt) (q c : Int) : addE s q c = 0 ∨ addE s q c ≠ 0 := by omega
theorem credOk_of {s t : ASt} (h : CredOk s) (e : t.w = s.w) (e1 : t.hi = s.hi) (e2 : t.me = s.me) (e3 : t.lo = s.lo) (e4 : t.c1 = s.c1) (e5 : t.c2 = s.c2) (e6 : t.c3 = s.c3) : CredOk t := fun hw => by
  have := h (e ▸ hw)
  unfold CB at this ⊢
  rw [e1, e2, e3, e4, e5, e6]; exact this
theorem CredOk.add {s : ASt} (h : CredOk s) (q c : Int) : CredOk (addS s q c) := by
  obtain ⟨h1, h2, h3, h4, h5, h6, h7, h8, h9, h10, h11, h12, h13⟩ := addS_num s q c
  exact credOk_of h h1 h3 h4 h5 h11 h12 h13
theorem CredOk.rem {s : ASt} (h : CredOk s) (q : Int) : CredOk (remS s q) := by
  obtain ⟨h1, h2, h3, h4, h5, h6, h7, h8, h9, h10, h11, h12, h13⟩ := remS_num s q
  exact credOk_of h h1 h3 h4 h5 h11 h12 h13
theorem ok_weights {w : Bool} {b hi me lo : Int} (h : okC w b hi me lo = true) (hw : w = true) : (1 ≤ hi ∧ hi ≤ 256) ∧ (1 ≤ me ∧ me ≤ 256) ∧ (1 ≤ lo ∧ lo ≤ 256) := by
  unfold okC wOk at h
  simp [hw] at h
  omega
theorem CredOk.new {w : Bool} {b hi me lo : Int} (h : okC w b hi me lo = true) : CredOk (aNew w b hi me lo) := fun hw => by
  have := ok_weights h hw
  simp only [CB, aNew]
  omega
theorem CredOk.conf {s : ASt} (h : CredOk s) (w : Bool) (b hi me lo : Int) : CredOk (s.confS w b hi me lo) := by
  unfold ASt.confS
  split
  · rename_i ho
    intro hw
    have := ok_weights ho hw
    simp only [CB, ASt.conf]
    omega
  · exact h
theorem QOk.conf {s : ASt} {Q : Ld} (h : QOk s Q) (w : Bool) (b hi me lo : Int) : QOk (s.confS w b hi me lo) Q := by
  unfold ASt.confS
  split
  · exact h.same rfl rfl
  · exact h
theorem setLast_hv (s : ASt) (c q : Int) : (setLast s c q).h = s.h ∧ (setLast s c q).v = s.v := by
  unfold setLast; repeat' split
  all_goals exact ⟨rfl, rfl⟩
theorem setCred_hv (s : ASt) (c q : Int) : (setCred s c q).h = s.h ∧ (setCred s c q).v = s.v := by
  unfold setCred; repeat' split
  all_goals exact ⟨rfl, rfl⟩
theorem choose_hv (s : ASt) (l : List Int) : (chooseR s l).2.2.h = s.h ∧ (chooseR s l).2.2.v = s.v := by
  unfold chooseR; repeat' split
  all_goals exact ⟨rfl, rfl⟩
theorem pickC_hv (s : ASt) (c : Int) (l : List Int) (w : Int → Int) : (pickC s c l w).s.h = s.h ∧ (pickC s c l w).s.v = s.v := by
  unfold pickC
  split
  · exact setLast_hv _ _ _
  · exact ⟨((setLast_hv _ _ _).1).trans (setCred_hv _ _ _).1, ((setLast_hv _ _ _).2).trans (setCred_hv _ _ _).2⟩
theorem pickR_hv (s : ASt) (l : List Int) (w : Int → Int) : (pickR s l w).s.h = s.h ∧ (pickR s l w).s.v = s.v := by
  unfold pickR
  split
  · exact ⟨(pickC_hv _ _ _ _).1.trans (choose_hv s l).1, (pickC_hv _ _ _ _).2.trans (choose_hv s l).2⟩
  · exact choose_hv s l
theorem credOk_last {s : ASt} (h : CredOk s) (c q : Int) : CredOk (setLast s c q) := by
  unfold setLast; repeat' split
  all_goals exact credOk_of h rfl rfl rfl rfl rfl rfl rfl
theorem credOk_cred {s : ASt} (h : CredOk s) (c x : Int) (h0 : c ≠ 0 → s.w = true → 0 ≤ x ∧ x ≤ 256) : CredOk (setCred s c x) := by
  unfold setCred
  by_cases c0 : c = 0
  · rw [if_pos c0]; exact credOk_of h rfl rfl rfl rfl rfl rfl rfl
  rw [if_neg c0]
  repeat' split
  all_goals
    intro hw
    have h1 := h hw
    have h2 := h0 c0 hw
    simp only [CB] at h1 ⊢
    omega
theorem CredOk.choose {s : ASt} (h : CredOk s) (l : List Int) : CredOk (chooseR s l).2.2 := by
  unfold chooseR; repeat' split
  all_goals first | exact h | exact credOk_refill h
theorem cred_bound {s : ASt} (h : CredOk s) (hw : s.w = true) {c : Int} (hc : c ≠ 0) : 0 ≤ s.cred c ∧ s.cred c ≤ 256 := by
  have := h hw
  simp only [CB] at this
  unfold ASt.cred
  rw [if_neg hc]
  repeat' split
  all_goals omega
theorem CredOk.pickC {s : ASt} (h : CredOk s) (c : Int) (l : List Int) (w : Int → Int) (hw : ∀ q, 0 ≤ w q) : CredOk (pickC s c l w).s := by
  unfold Sx.pickC
  split
  · exact credOk_last h _ _
  · rename_i hc
    refine credOk_last (credOk_cred h _ _ fun _ h1 => ?_) _ _
    have h2 := cred_bound h h1 hc
    have h3 := hw (nextQ s c l)
    have h4 : 0 ≤ capB s.b (w (nextQ s c l)) := by unfold capB; split <;> omega
    omega
theorem CredOk.pickR {s : ASt} (h : CredOk s) (l : List Int) (w : Int → Int) (hw : ∀ q, 0 ≤ w q) : CredOk (pickR s l w).s := by
  unfold Sx.pickR
  split
  · exact (h.choose l).pickC _ _ _ hw
  · exact h.choose l
theorem PkP.cred {s : ASt} {Q ld : Ld} {z : PR} (h : PkP s Q ld z) (hs : CredOk s) : CredOk z.s := by
  rcases h with ⟨_, rfl⟩ | ⟨hk, rfl⟩
  · exact hs
  · exact hs.pickR _ _ (wv_nonneg hk)
theorem PkP.q {s : ASt} {Q ld : Ld} {z : PR} (h : PkP s Q ld z) (hQ : QOk s Q) : QOk z.s Q := by
  rcases h with ⟨_, rfl⟩ | ⟨hk, rfl⟩
  · exact hQ
  · exact hQ.same (pickR_hv _ _ _).1 (pickR_hv _ _ _).2
/-- A contract with another name for its answers. -/
theorem HC.to {ι κ : Type} {P : Program} {f : FuncId} {xs : List SV} {hp ro : Hp} {nx : Nat} {ψ : ι → Prop} {out : ι → Out} {ψ' : κ → Prop} {out' : κ → Out} (h : HC P f xs hp ro nx ψ out) (g : ∀ z, ψ z → ∃ y, ψ' y ∧ out' y = out z) : HC P f xs hp ro nx ψ' out' := by
  intro B β w vs h1 h2 h3
  refine (h B β w vs h1 h2 h3).mono ?_
  rintro e w' ⟨z, hz⟩
  obtain ⟨β', v, h4, h5⟩ := hz
  obtain ⟨y, h6, h7⟩ := g z h4
  exact ⟨y, β', v, h6, by rw [h7]; exact h5⟩
/-- Any call. -/
theorem do_hc (s : ASt) (hs : CredOk s) (Q : Ld) (hQ : QOk s Q) (cap off capL : Nat) (hlq : Q.length < 100000) (a : AC) (hla : a.ld.length < 100000) :
    HC Try.prog 18 [.ptr 0 0, refV s 2 Q.length, actV a 3 off] (doH s Q cap) (lrow a off capL) 4 (fun z : ASt × Ld × Nat => QOk z.1 z.2.1 ∧ CredOk z.1 ∧ z.2.1.length ≤ Q.length + 1) (fun z => doO z.1 z.2.1 z.2.2 ()) := by
  by_cases h0 : a.k = 0
  · by_cases he : addE s a.q a.c = 0
    · exact (do_add_ok s Q cap off capL hlq a h0 hQ.h he (hQ.add he)).to fun _ _ => ⟨(_, _, _), ⟨hQ.add he, hs.add _ _, by show (insQ _ _ _).length ≤ _; rw [insQ_length]; omega⟩, rfl⟩
    · exact (do_add_bad s Q cap off capL hlq a h0 he hQ).to fun _ _ => ⟨(_, _, _), ⟨hQ, hs, Nat.le_succ _⟩, rfl⟩
  by_cases h1 : a.k = 1
  · by_cases he : remE s a.q = 0
    · obtain ⟨k, hk, e, hQ'⟩ := hQ.rem he
      exact (do_rem_ok s Q cap off capL hlq a h1 he k hk e hQ').to fun _ _ => ⟨(_, _, _), ⟨hQ', hs.rem _, by show (Q.eraseIdx k).length ≤ _; rw [List.length_eraseIdx, if_pos hk]; omega⟩, rfl⟩
    · exact (do_rem_bad s Q cap off capL hlq a h1 he hQ).to fun _ _ => ⟨(_, _, _), ⟨hQ, hs, Nat.le_succ _⟩, rfl⟩
  by_cases h2 : a.k = 2
  · exact (do_conf s Q cap off capL a h2).to fun _ _ => ⟨(_, _, _), ⟨hQ.conf _ _ _ _ _, hs.conf _ _ _ _ _, Nat.le_succ _⟩, rfl⟩
  · exact (do_pick s hs Q cap off capL hlq a hla h0 h1 h2 hQ).to fun z hz => ⟨(z.s, Q, cap), ⟨hz.q hQ, hz.cred hs, Nat.le_succ _⟩, rfl⟩
end Sx
