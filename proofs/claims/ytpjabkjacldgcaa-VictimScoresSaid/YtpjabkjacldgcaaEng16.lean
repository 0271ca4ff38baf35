/- A region that draws its order: one operation of a block, in its turn. No condition. -/
import Derived.Test.YtpjabkjacldgcaaEng15
namespace Sx
open Go

section
variable {P : Program} {M : Mode} {ro : Hp} {ops : Array Oper} {T : List (List Nat)} {n nx m b : Nat} {Sl : Nat → Slots} {Hs : Nat → Hp} {dr : Nat → DR} {B : Base}

/-- The real effect of operation j, told by what it wrote. -/
structure Did (β : Env) (d : DR) (idn : Nat) (w : World) (β' : Env) (w' : World) : Prop where
  le : β.le β'
  new : ∀ i bl, β' i = some bl → β i = some bl ∨ (i = idn ∧ bl = w.heap.size ∧ d.whn = some i)
  wrote : ∀ i so, d.wh = some (i, so) → ∃ bl o, β' i = some bl ∧ w'.heap[bl]? = some o ∧ ORel β' so o ∧ loose o ∧ (bl = w.heap.size ∨ β i = some bl)
  kept : ∀ bl o, w.heap[bl]? = some o → (∀ i, d.whn = some i → β i = some bl → False) → w'.heap[bl]? = some o
  os : w'.os = w.os
  tape : w'.tape = w.tape
  output : w'.output = w.output
  size : w.heap.size ≤ w'.heap.size

theorem inv_step {dd : List Deferred} (hB : B.ok) (hch : Chain P M ro ops n nx m b Sl Hs dr) (hin : Indeps T m b dr) {X : Nat → Prop} (hX : Closed T m b X) {j : Nat} (hj : j < b) (hjX : ¬ X j)
    (hpre : ∀ i, i < b → inT T (m + i) (m + j) = true → X i) {β β' : Env} {tmps : Array Value} {w w' : World} (hI : Inv b nx Sl Hs dr ro B X β tmps w) (hsz : tmps.size = n)
    (hd : Did β (dr j) (nx + j) w β' w') (hsame : ∀ i so, (dr j).wh = some (i, so) → i ≠ nx + j → i ∈ (dr j).rh ∧ ∃ s, hget i (Hs j) = some s)
    {v : Value} (hv : Rel β' (dr j).v v) :
    Inv b nx Sl Hs dr ro B (fun i => X i ∨ i = j) β' (Act.put ⟨tmps, dd⟩ (dr j).dst v).tmps w' := by
  obtain ⟨o, cs, c1, c2, c3, c4, c5⟩ := hch.step j hj
  have hdst := dop_dst c3
  have hlt : ∀ bl o, w.heap[bl]? = some o → bl < w.heap.size := fun bl o h => (Array.getElem?_eq_some_iff.1 h).1
  -- a block that was written is one's own
  have own : ∀ i, (dr j).whn = some i → ∀ bl, β i = some bl → B.D bl = none := by
    intro i hi bl hb
    unfold DR.whn at hi
    cases hw : (dr j).wh with
    | none => rw [hw] at hi; cases hi
    | some p =>
      obtain ⟨i', so⟩ := p
      rw [hw] at hi; injection hi with hi; subst hi
      by_cases e : i' = nx + j
      · exfalso
        rcases hI.F i' bl hb with h | ⟨j', h1, h2⟩
        · omega
        · have : j' = j := by omega
          subst this; exact hjX h1
      · obtain ⟨g1, s, g2⟩ := hsame i' so hw e
        obtain ⟨k, k1, k2⟩ := read_heap hch hin hX hj hjX hpre g1
        obtain ⟨bl', o', q1, q2, _⟩ := hI.H i' k s k1 (by rw [k2]; exact g2)
        rw [hb] at q1; injection q1 with q1; subst q1; exact q2
  have keepOld : ∀ bl o, B.D bl = some o → w'.heap[bl]? = some o := by
    intro bl o hD
    refine hd.kept bl o (hI.old bl o hD) (fun i hi hb => ?_)
    rw [own i hi bl hb] at hD; cases hD
  -- another live block stays
  have other : ∀ t k s, LastH b dr X t k → hget t (Hs k) = some s → (dr j).whn ≠ some t → ∃ bl o, β' t = some bl ∧ B.D bl = none ∧ w'.heap[bl]? = some o ∧ ORel β' s o ∧ loose o := by
    intro t k s h1 h2 h3
    obtain ⟨bl, o, q1, q2, q3, q4, q5⟩ := hI.H t k s h1 h2
    refine ⟨bl, o, hd.le _ _ q1, q2, ?_, ORel.mono hd.le _ _ q4, q5⟩
    refine hd.kept bl o q3 (fun i hi hb => ?_)
    have hit : i ≠ t := by intro e; subst e; exact h3 hi
    unfold DR.whn at hi
    cases hw : (dr j).wh with
    | none => rw [hw] at hi; cases hi
    | some p =>
      obtain ⟨i', so⟩ := p
      rw [hw] at hi; injection hi with hi; subst hi
      by_cases e : i' = nx + j
      · rcases hI.F i' bl hb with h | ⟨j', g1, g2⟩
        · omega
        · have : j' = j := by omega
          subst this; exact hjX g1
      · obtain ⟨g1, s', g2⟩ := hsame i' so hw e
        obtain ⟨k', k1, k2⟩ := read_heap hch hin hX hj hjX hpre g1
        exact hI.A i' k' s' t k s k1 (by rw [k2]; exact g2) h1 h2 hit (hb.trans q1.symm)
  -- the block that was written
  have mine : ∀ t s, (dr j).whn = some t → hget t (Hs (j + 1)) = some s → ∃ bl o, β' t = some bl ∧ B.D bl = none ∧ w'.heap[bl]? = some o ∧ ORel β' s o ∧ loose o ∧ (bl = w.heap.size ∨ β t = some bl) := by
    intro t s h1 h2
    have hg := hput_get c5 t
    have h1' := h1
    unfold DR.whn at h1
    cases hw : (dr j).wh with
    | none => rw [hw] at h1; cases h1
    | some p =>
      obtain ⟨i', so⟩ := p
      rw [hw] at h1; injection h1 with h1; subst h1
      unfold hputV at hg; rw [hw] at hg
      simp only [if_true] at hg
      rw [hg] at h2; injection h2 with h2; subst h2
      obtain ⟨bl, o, q1, q2, q3, q4, q5⟩ := hd.wrote i' so hw
      refine ⟨bl, o, q1, ?_, q2, q3, q4, q5⟩
      rcases q5 with rfl | q5
      · cases hD : B.D w.heap.size with
        | none => rfl
        | some o' => have := hB _ _ hD; have := hI.size; omega
      · exact own i' h1' bl q5
  refine ⟨?_, ?_, ?_, ?_, ?_, keepOld, hd.os.trans hI.os, hd.tape.trans hI.tape, hd.output.trans hI.output, Nat.le_trans hI.size hd.size, fun i b h => hd.le i b (hI.pin i b h)⟩
  · intro t k u hL hl
    rcases lastS_after hin hX hj hjX hL with ⟨h1, rfl⟩ | ⟨h1, h2⟩
    · have := (put_look c4 t)
      rw [hdst] at h1
      rw [this.1, if_pos h1] at hl
      injection hl with hl; subst hl
      have ht := this.2 h1
      rw [hdst, h1]
      simp only [Act.put, Array.getD_eq_getD_getElem?, Array.getElem?_setIfInBounds]
      rw [if_pos trivial, if_pos (by omega)]
      exact hv
    · have h0 := Rel.mono hd.le _ _ (hI.S t k u h2 hl)
      cases hdd : (dr j).dst with
      | none => simpa [Act.put] using h0
      | some d =>
        have hne : d ≠ t := by intro e; subst e; exact h1 hdd
        simp only [Act.put, Array.getD_eq_getD_getElem?, Array.getElem?_setIfInBounds]
        rw [if_neg hne]
        simpa [Array.getD_eq_getD_getElem?] using h0
  · intro t k s hL hl
    rcases lastH_after hin hX hj hjX hL with ⟨h1, rfl⟩ | ⟨h1, h2⟩
    · obtain ⟨bl, o, q1, q2, q3, q4, q5, _⟩ := mine t s h1 hl
      exact ⟨bl, o, q1, q2, q3, q4, q5⟩
    · exact other t k s h2 hl h1
  · intro t k s t' k' s' hL hl hL' hl' hne
    -- where a live block lay
    have was : ∀ t k s, LastH b dr X t k → hget t (Hs k) = some s → ∃ bl, β t = some bl ∧ bl < w.heap.size := by
      intro t k s h1 h2
      obtain ⟨bl, o, q1, q2, q3, q4, q5⟩ := hI.H t k s h1 h2
      exact ⟨bl, q1, hlt bl o q3⟩
    have liveMine : ∀ t s, (dr j).whn = some t → hget t (Hs (j + 1)) = some s → (β' t = some w.heap.size) ∨ ∃ k0 s0, LastH b dr X t k0 ∧ hget t (Hs k0) = some s0 := by
      intro t s h1 h2
      obtain ⟨bl, o, q1, _, _, _, _, q5⟩ := mine t s h1 h2
      rcases q5 with rfl | q5
      · exact .inl q1
      · right
        have h1' := h1
        unfold DR.whn at h1
        cases hw : (dr j).wh with
        | none => rw [hw] at h1; cases h1
        | some p =>
          obtain ⟨i', so⟩ := p
          rw [hw] at h1; injection h1 with h1; subst h1
          by_cases e : i' = nx + j
          · exfalso
            rcases hI.F i' bl q5 with h | ⟨j', g1, g2⟩
            · omega
            · have : j' = j := by omega
              subst this; exact hjX g1
          · obtain ⟨g1, s', g2⟩ := hsame i' so hw e
            obtain ⟨k', k1, k2⟩ := read_heap hch hin hX hj hjX hpre g1
            exact ⟨k', s', k1, by rw [k2]; exact g2⟩
    have cls : ∀ t k s, LastH b dr (fun i => X i ∨ i = j) t k → hget t (Hs k) = some s → (β' t = some w.heap.size ∧ (dr j).whn = some t) ∨ ∃ k0 s0, LastH b dr X t k0 ∧ hget t (Hs k0) = some s0 := by
      intro t k s h1 h2
      rcases lastH_after hin hX hj hjX h1 with ⟨g1, rfl⟩ | ⟨g1, g2⟩
      · rcases liveMine t s g1 h2 with h | h
        · exact .inl ⟨h, g1⟩
        · exact .inr h
      · exact .inr ⟨k, s, g2, h2⟩
    rcases cls t k s hL hl with ⟨a1, a2⟩ | ⟨k0, s0, a1, a2⟩
    · rcases cls t' k' s' hL' hl' with ⟨b1, b2⟩ | ⟨k1, s1, b1, b2⟩
      · rw [a2] at b2; injection b2 with b2; exact absurd b2 hne
      · obtain ⟨bl, q1, q2⟩ := was t' k1 s1 b1 b2
        rw [a1, hd.le _ _ q1]; intro e; injection e with e; omega
    · obtain ⟨bl, q1, q2⟩ := was t k0 s0 a1 a2
      rcases cls t' k' s' hL' hl' with ⟨b1, b2⟩ | ⟨k1, s1, b1, b2⟩
      · rw [b1, hd.le _ _ q1]; intro e; injection e with e; omega
      · obtain ⟨bl', r1, r2⟩ := was t' k1 s1 b1 b2
        have := hI.A t k0 s0 t' k1 s1 a1 a2 b1 b2 hne
        rw [hd.le _ _ q1, hd.le _ _ r1]; rw [q1, r1] at this; exact this
  · intro i bl hb
    rcases hd.new i bl hb with h | ⟨h1, h2, h3⟩
    · rcases hI.F i bl h with h | ⟨j', g1, g2⟩
      · exact .inl h
      · exact .inr ⟨j', .inl g1, g2⟩
    · exact .inr ⟨j, .inr rfl, h1⟩
  · intro i s hi
    obtain ⟨bl, o, q1, q2, q3⟩ := hI.read i s hi
    exact ⟨bl, o, hd.le _ _ q1, q2, ORel.mono hd.le _ _ q3⟩
end
end Sx
