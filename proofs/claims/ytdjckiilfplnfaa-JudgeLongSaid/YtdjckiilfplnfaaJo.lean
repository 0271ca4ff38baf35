/- Package judge: what the search finds. Conditions: as each theorem says. -/
import Derived.Test.YtdjckiilfplnfaaJl
set_option linter.unusedSimpArgs false
set_option linter.unusedVariables false
namespace Sx
open Go Go.Proofs
/-- A part more stands. -/
def StpI (q : SQ) (s : St) (i : Nat) : Prop := frS q s.1 i = true ∧ okA (q.P i) s.2 = true
def chI (q : SQ) (s : St) (i : Nat) : St := (s.1 ||| 2 ^ i, apL (q.P i) s.2)
/-- What may come after a state. -/
inductive Rch (q : SQ) : St → St → Prop
  | refl (s : St) : Rch q s s
  | step {s t : St} (i : Nat) (hi : i < q.n) (h : StpI q s i) (g : Rch q (chI q s i) t) : Rch q s t
theorem Rch.trans {q : SQ} {s t r : St} (h : Rch q s t) (g : Rch q t r) : Rch q s r := by
  induction h with
  | refl => exact g
  | step i hi h _ ih => exact .step i hi h (ih g)
/-- Whether all parts that are done can stand after it. -/
def Whole (q : SQ) (s : St) : Prop := ∃ t, Rch q s t ∧ t.1 &&& q.dn = q.dn
theorem whole_iff (q : SQ) (s : St) : Whole q s ↔ (s.1 &&& q.dn = q.dn) ∨ ∃ i, i < q.n ∧ StpI q s i ∧ Whole q (chI q s i) := by
  constructor
  · rintro ⟨t, h, g⟩
    cases h with
    | refl => exact .inl g
    | step i hi h r => exact .inr ⟨i, hi, h, t, r, g⟩
  · rintro (h | ⟨i, hi, h, t, r, g⟩)
    · exact ⟨s, .refl s, h⟩
    · exact ⟨t, .step i hi h r, g⟩
theorem rch_iff (q : SQ) (s x : St) : Rch q s x ↔ x = s ∨ ∃ i, i < q.n ∧ StpI q s i ∧ Rch q (chI q s i) x := by
  constructor
  · intro h
    cases h with
    | refl => exact .inl rfl
    | step i hi h r => exact .inr ⟨i, hi, h, r⟩
  · rintro (rfl | ⟨i, hi, h, r⟩)
    · exact .refl _
    · exact .step i hi h r
structure WInv (q : SQ) (m : MW × MO) : Prop where
  val : ∀ s b, lget m.1 s = some b → (b = true ↔ Whole q s)
  clo : ∀ s t, (lget m.1 s).isSome = true → Rch q s t → (lget m.1 t).isSome = true
  out : ∀ v, (lget m.2 v).isSome = true ↔ ∃ s, (lget m.1 s).isSome = true ∧ s.2 = v ∧ Whole q s ∧ goodS q s.1 = true
def SLaw (q : SQ) (s : St) (m : MW × MO) (r : Bool × (MW × MO)) : Prop := (r.1 = true ↔ Whole q s) ∧ WInv q r.2 ∧ ∀ x, (lget r.2.1 x).isSome = true ↔ (lget m.1 x).isSome = true ∨ Rch q s x
theorem up_law {q : SQ} {g : St → MW × MO → Bool × (MW × MO)} {s : St} (hg : ∀ i m, i < q.n → StpI q s i → WInv q m → SLaw q (chI q s i) m (g (chI q s i) m)) (b : Bool) (m : MW × MO) (hm : WInv q m) : ∀ i, i ≤ q.n →
    ((upS q g s (b, m) i).1 = true ↔ b = true ∨ ∃ j, j < i ∧ StpI q s j ∧ Whole q (chI q s j)) ∧ WInv q (upS q g s (b, m) i).2 ∧ ∀ x, (lget (upS q g s (b, m) i).2.1 x).isSome = true ↔ (lget m.1 x).isSome = true ∨ ∃ j, j < i ∧ StpI q s j ∧ Rch q (chI q s j) x
  | 0, _ => ⟨⟨.inl, fun h => h.elim id fun ⟨_, h, _⟩ => absurd h (Nat.not_lt_zero _)⟩, hm, fun x => ⟨.inl, fun h => h.elim id fun ⟨_, h, _⟩ => absurd h (Nat.not_lt_zero _)⟩⟩
  | i + 1, hi => by
    obtain ⟨h1, h2, h3⟩ := up_law hg b m hm i (by omega)
    rw [upS_succ]
    cases e : frS q s.1 i && okA (q.P i) s.2 with
    | false =>
      rw [cond_false]
      have hno : ¬ StpI q s i := fun ⟨a, c⟩ => by rw [a, c] at e; cases e
      refine ⟨h1.trans ?_, h2, fun x => (h3 x).trans ?_⟩
      · refine or_congr Iff.rfl ⟨fun ⟨j, a, c⟩ => ⟨j, by omega, c⟩, fun ⟨j, a, c⟩ => ⟨j, ?_, c⟩⟩
        rcases Nat.lt_or_ge j i with l | l
        · exact l
        · rw [show j = i by omega] at c; exact absurd c.1 hno
      · refine or_congr Iff.rfl ⟨fun ⟨j, a, c⟩ => ⟨j, by omega, c⟩, fun ⟨j, a, c⟩ => ⟨j, ?_, c⟩⟩
        rcases Nat.lt_or_ge j i with l | l
        · exact l
        · rw [show j = i by omega] at c; exact absurd c.1 hno
    | true =>
      rw [cond_true]
      rw [Bool.and_eq_true] at e
      obtain ⟨g1, g2, g3⟩ := hg i _ (by omega) e h2
      unfold chI at g1 g2 g3
      refine ⟨?_, g2, fun x => ?_⟩
      · rw [Bool.or_eq_true, h1, g1]
        constructor
        · rintro ((h | ⟨j, a, c⟩) | h)
          · exact .inl h
          · exact .inr ⟨j, by omega, c⟩
          · exact .inr ⟨i, by omega, e, h⟩
        · rintro (h | ⟨j, a, c1, c2⟩)
          · exact .inl (.inl h)
          · rcases Nat.lt_or_ge j i with l | l
            · exact .inl (.inr ⟨j, l, c1, c2⟩)
            · rw [show j = i by omega] at c2; exact .inr c2
      · show (lget (g _ _).2.1 x).isSome = true ↔ _
        rw [g3 x, h3 x]
        constructor
        · rintro ((h | ⟨j, a, c⟩) | h)
          · exact .inl h
          · exact .inr ⟨j, by omega, c⟩
          · exact .inr ⟨i, by omega, e, h⟩
        · rintro (h | ⟨j, a, c1, c2⟩)
          · exact .inl (.inl h)
          · rcases Nat.lt_or_ge j i with l | l
            · exact .inl (.inr ⟨j, l, c1, c2⟩)
            · rw [show j = i by omega] at c2; exact .inr c2
theorem srch_law {q : SQ} (hn : q.n ≤ 12) : ∀ (k : Nat) (s : St) (m : MW × MO), s.1 < 65536 → cntS q s.1 < k → WInv q m → SLaw q s m (srch q k s m)
  | 0, _, _, _, hc, _ => absurd hc (Nat.not_lt_zero _)
  | k + 1, s, m, hs, hc, hm => by
    unfold srch
    cases e : lget m.1 s with
    | some b =>
      refine ⟨hm.val s b e, hm, fun x => ⟨.inl, fun h => h.elim id fun h => hm.clo s x (by rw [e]; rfl) h⟩⟩
    | none =>
      obtain ⟨h1, h2, h3⟩ := up_law (g := srch q k) (s := s) (fun i m hi hst hm => srch_law hn k _ m (or_lt hs (Nat.pow_lt_pow_right (n := 16) (by decide) (by omega))) (child_cnt hs hi hst.1 hc) hm) (decide (s.1 &&& q.dn = q.dn)) m hm q.n (Nat.le_refl _)
      have hw : (upS q (srch q k) s (decide (s.1 &&& q.dn = q.dn), m) q.n).1 = true ↔ Whole q s := by
        rw [h1, whole_iff, decide_eq_true_iff]
      generalize upS q (srch q k) s (decide (s.1 &&& q.dn = q.dn), m) q.n = z at h1 h2 h3 hw
      have dom : ∀ x, (lget (lput z.2.1 s z.1) x).isSome = true ↔ (lget m.1 x).isSome = true ∨ Rch q s x := fun x => by
        rw [lget_put]
        by_cases hx : x = s
        · rw [if_pos hx, hx]; exact ⟨fun _ => .inr (.refl s), fun _ => rfl⟩
        · rw [if_neg hx, h3 x, rch_iff q s x]
          constructor
          · rintro (h | h)
            · exact .inl h
            · exact .inr (.inr h)
          · rintro (h | h | h)
            · exact .inl h
            · exact absurd h hx
            · exact .inr h
      refine ⟨hw, ⟨fun x b hx => ?_, fun x t hx hr => ?_, fun v => ?_⟩, dom⟩
      · rw [lget_put] at hx
        by_cases hxs : x = s
        · rw [if_pos hxs] at hx; injection hx with hx; rw [← hx, hxs]; exact hw
        · rw [if_neg hxs] at hx; exact h2.val x b hx
      · rw [dom] at hx ⊢
        rcases hx with h | h
        · exact .inl (hm.clo x t h hr)
        · exact .inr (h.trans hr)
      · have step : (∃ x, (lget (lput z.2.1 s z.1) x).isSome = true ∧ x.2 = v ∧ Whole q x ∧ goodS q x.1 = true) ↔ (∃ x, (lget z.2.1 x).isSome = true ∧ x.2 = v ∧ Whole q x ∧ goodS q x.1 = true) ∨ (s.2 = v ∧ Whole q s ∧ goodS q s.1 = true) := by
          constructor
          · rintro ⟨x, c1, c2⟩
            rw [lget_put] at c1
            by_cases hxs : x = s
            · rw [hxs] at c2; exact .inr c2
            · rw [if_neg hxs] at c1; exact .inl ⟨x, c1, c2⟩
          · rintro (⟨x, c1, c2⟩ | c)
            · refine ⟨x, ?_, c2⟩
              rw [lget_put]
              by_cases hxs : x = s
              · rw [if_pos hxs]; rfl
              · rw [if_neg hxs]; exact c1
            · exact ⟨s, by rw [lget_put, if_pos rfl]; rfl, c⟩
        show (lget (bif z.1 && goodS q s.1 then lput z.2.2 s.2 true else z.2.2) v).isSome = true ↔ _
        rw [step]
        cases hb : z.1 && goodS q s.1 with
        | true =>
          rw [Bool.and_eq_true] at hb
          rw [cond_true, lget_put]
          by_cases hv : v = s.2
          · rw [if_pos hv]; exact ⟨fun _ => .inr ⟨hv.symm, hw.1 hb.1, hb.2⟩, fun _ => rfl⟩
          · rw [if_neg hv, h2.out v]
            exact ⟨.inl, fun h => h.elim id fun h => absurd h.1.symm hv⟩
        | false =>
          rw [cond_false, h2.out v]
          refine ⟨.inl, fun h => h.elim id fun h => ?_⟩
          rw [hw.2 h.2.1, h.2.2] at hb
          cases hb
/-- What stands after an epoch. -/
theorem aft_law (P : Nat → PT) (n : Nat) (last : Bool) (hn : n ≤ 12) (l w : List Int) : (lget (aftL P n last l) w).isSome = true ↔ ∃ A, Rch (sqOf P n last) (0, l) (A, w) ∧ Whole (sqOf P n last) (A, w) ∧ goodS (sqOf P n last) A = true := by
  have hc : cntS (sqOf P n last) 0 < 13 := by
    have := List.length_filter_le (fun j => !(0 : Nat).testBit j) (List.range n)
    rw [List.length_range] at this
    show (List.filter _ (List.range n)).length < 13
    omega
  have hm : WInv (sqOf P n last) ([], []) := ⟨fun s b h => by simp [lget] at h, fun s t h => by simp [lget] at h, fun v => ⟨fun h => by simp [lget] at h, fun ⟨s, h, _⟩ => by simp [lget] at h⟩⟩
  obtain ⟨_, h2, h3⟩ := srch_law (q := sqOf P n last) hn 13 (0, l) ([], []) (by show (0 : Nat) < 65536; decide) hc hm
  unfold aftL
  rw [h2.out w]
  constructor
  · rintro ⟨⟨A, v⟩, c1, rfl, c3, c4⟩
    rw [h3] at c1
    rcases c1 with c1 | c1
    · simp [lget] at c1
    · exact ⟨A, c1, c3, c4⟩
  · rintro ⟨A, c1, c3, c4⟩
    exact ⟨(A, w), (h3 _).2 (.inr c1), rfl, c3, c4⟩
end Sx
