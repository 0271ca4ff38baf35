/- A region that draws its order: one operation of a block, in its turn. No condition. -/
import Derived.Test.YtpjabkjacldgcaaEng15
namespace Sx
open Go

section
variable {P : Program} {M : Mode} {ro : Hp} {ops : Array Oper} {T : List (List Nat)} {n nx m b : Nat} {Sl : Nat → Slots} {Hs : Nat → Hp} {dr : Nat → DR} {B : Base}

/-- The real effect of operation j, told by what it wrote. -/
structure Did (hp : Hp) (β : Env) (d : DR) (idn : Nat) (w : World) (β' : Env) (w' : World) : Prop where
  le : β.le β'
  new : ∀ i bl, β' i = some bl → β i = some bl ∨ i = idn
  sub : ∀ i, i ∈ d.mod → i = idn ∨ i ∈ d.rh
  wrote : ∀ i so, d.wh = some (i, so) → so.Live → ∃ bl o, β' i = some bl ∧ w'.heap[bl]? = some o ∧ ORel β' so o ∧ Fit (β'.room i) o ∧
    (bl = w.heap.size ∨ ∃ t s, t ∈ d.mod ∧ hget t hp = some s ∧ s.Live ∧ β t = some bl)
  kept : ∀ bl o, w.heap[bl]? = some o → (∀ i s, i ∈ d.mod → hget i hp = some s → s.Live → β i = some bl → False) → w'.heap[bl]? = some o
  os : w'.os = w.os
  tape : w'.tape = w.tape
  output : w'.output = w.output
  size : w.heap.size ≤ w'.heap.size

theorem inv_step {dd : List Deferred} (hB : B.ok) (hch : Chain P M ro ops n nx m b Sl Hs dr) (hin : Indeps T m b dr) {X : Nat → Prop} (hX : Closed T m b X) {j : Nat} (hj : j < b) (hjX : ¬ X j)
    (hpre : ∀ i, i < b → inT T (m + i) (m + j) = true → X i) {β β' : Env} {tmps : Array Value} {w w' : World} (hI : Inv b nx Sl Hs dr ro B X β tmps w) (hsz : tmps.size = n)
    (hd : Did (Hs j) β (dr j) (nx + j) w β' w') {v : Value} (hv : Rel β' (dr j).v v) :
    Inv b nx Sl Hs dr ro B (fun i => X i ∨ i = j) β' (Act.put ⟨tmps, dd⟩ (dr j).dst v).tmps w' := by
  obtain ⟨o, cs, c1, c2, c3, c4, c5⟩ := hch.step j hj
  have hdst := dop_dst c3
  have hlt : ∀ bl o, w.heap[bl]? = some o → bl < w.heap.size := fun bl o h => (Array.getElem?_eq_some_iff.1 h).1
  have hfresh : β (nx + j) = none := by
    cases hb : β (nx + j) with
    | none => rfl
    | some bl =>
      rcases hI.F _ bl hb with h | ⟨j', h1, h2⟩
      · omega
      · have : j' = j := by omega
        subst this; exact absurd h1 hjX
  -- a block that is touched is known
  have tch : ∀ t s bl, t ∈ (dr j).mod → hget t (Hs j) = some s → s.Live → β t = some bl → ∃ k, LastH b dr X t k ∧ hget t (Hs k) = some s := by
    intro t s bl h1 h2 h3 h4
    rcases hd.sub t h1 with rfl | h5
    · rw [hfresh] at h4; cases h4
    · obtain ⟨k, k1, k2⟩ := read_heap hch hin hX hj hjX hpre h5
      exact ⟨k, k1, by rw [k2]; exact h2⟩
  have own : ∀ t s bl, t ∈ (dr j).mod → hget t (Hs j) = some s → s.Live → β t = some bl → B.D bl = none := by
    intro t s bl h1 h2 h3 h4
    obtain ⟨k, k1, k2⟩ := tch t s bl h1 h2 h3 h4
    obtain ⟨bl', o', q1, q2, _⟩ := hI.H t k s k1 k2 h3
    rw [h4] at q1; injection q1 with q1; subst q1; exact q2
  have keepOld : ∀ bl o, B.D bl = some o → w'.heap[bl]? = some o := by
    intro bl o hD
    refine hd.kept bl o (hI.old bl o hD) (fun i s hi hs hl hb => ?_)
    rw [own i s bl hi hs hl hb] at hD; cases hD
  -- another live block stays
  have other : ∀ t k s, LastH b dr X t k → hget t (Hs k) = some s → s.Live → t ∉ (dr j).mod → ∃ bl o, β t = some bl ∧ bl < w.heap.size ∧ β' t = some bl ∧ B.D bl = none ∧ w'.heap[bl]? = some o ∧ ORel β' s o ∧ Fit (β'.room t) o := by
    intro t k s h1 h2 h3 h4
    obtain ⟨bl, o, q1, q2, q3, q4, q5⟩ := hI.H t k s h1 h2 h3
    refine ⟨bl, o, q1, hlt bl o q3, hd.le _ _ q1, q2, ?_, ORel.mono hd.le _ _ q4, by rw [hd.le.r _ _ q1]; exact q5⟩
    refine hd.kept bl o q3 (fun i s' hi hs' hl' hb => ?_)
    have hit : i ≠ t := by intro e; subst e; exact h4 hi
    obtain ⟨k', k1, k2⟩ := tch i s' bl hi hs' hl' hb
    exact hI.A i k' s' t k s k1 k2 h1 h2 hl' h3 hit (hb.trans q1.symm)
  -- the block that was written
  have mine : ∀ t s, t ∈ (dr j).mod → hget t (Hs (j + 1)) = some s → s.Live → (∃ so, (dr j).wh = some (t, so)) ∧ ∃ bl o, β' t = some bl ∧ B.D bl = none ∧ w'.heap[bl]? = some o ∧ ORel β' s o ∧ Fit (β'.room t) o ∧
      (bl = w.heap.size ∨ ∃ t' s', t' ∈ (dr j).mod ∧ hget t' (Hs j) = some s' ∧ s'.Live ∧ β t' = some bl) := by
    intro t s h1 h2 h3
    have hg := hmod_get c5 t
    unfold hmodV at hg
    rw [h2] at hg
    unfold DR.mod at h1
    cases hw : (dr j).wh with
    | none =>
      rw [hw] at h1 hg
      simp only at h1 hg
      rw [if_pos h1] at hg; cases hg
    | some p =>
      obtain ⟨i', so⟩ := p
      rw [hw] at h1 hg
      simp only [List.mem_cons] at h1 hg
      by_cases e : t = i'
      · subst e
        rw [if_pos rfl] at hg; injection hg with hg; subst hg
        obtain ⟨bl, o, q1, q2, q3, q4, q5⟩ := hd.wrote t s hw h3
        refine ⟨⟨s, rfl⟩, bl, o, q1, ?_, q2, q3, q4, q5⟩
        rcases q5 with rfl | ⟨t', s', g1, g2, g3, g4⟩
        · cases hD : B.D w.heap.size with
          | none => rfl
          | some o' => have := hB _ _ hD; have := hI.size; omega
        · exact own t' s' bl g1 g2 g3 g4
      · rw [if_neg e, if_pos (h1.resolve_left e)] at hg; cases hg
  refine ⟨?_, ?_, ?_, ?_, ?_, keepOld, hd.os.trans hI.os, hd.tape.trans hI.tape, hd.output.trans hI.output, Nat.le_trans hI.size hd.size, Env.le_trans hI.pin hd.le⟩
  · intro t k u hL hl
    rcases lastS_after hin hX hj hjX hL with ⟨h1, rfl⟩ | ⟨h1, h2⟩
    · have := (put_look c4 t)
      rw [hdst] at h1
      rw [this.1, if_pos h1] at hl
      injection hl with hl; subst hl
      have ht := this.2 h1
      rw [hdst, h1]
      simp only [Act.put, Array.getD_eq_getD_getElem?, Array.getElem?_setIfInBounds]
      rw [if_pos trivial, if_pos (by omega)]
      exact hv
    · have h0 := Rel.mono hd.le _ _ (hI.S t k u h2 hl)
      cases hdd : (dr j).dst with
      | none => simpa [Act.put] using h0
      | some d =>
        have hne : d ≠ t := by intro e; subst e; exact h1 hdd
        simp only [Act.put, Array.getD_eq_getD_getElem?, Array.getElem?_setIfInBounds]
        rw [if_neg hne]
        simpa [Array.getD_eq_getD_getElem?] using h0
  · intro t k s hL hl hlive
    rcases lastH_after hin hX hj hjX hL with ⟨h1, rfl⟩ | ⟨h1, h2⟩
    · obtain ⟨_, bl, o, q1, q2, q3, q4, q5, _⟩ := mine t s h1 hl hlive
      exact ⟨bl, o, q1, q2, q3, q4, q5⟩
    · obtain ⟨bl, o, _, _, q⟩ := other t k s h2 hl hlive h1
      exact ⟨bl, o, q⟩
  · intro t k s t' k' s' hL hl hL' hl' ls ls' hne
    -- one that was just written, and one that was not
    have apart1 : ∀ t t' k' s s', t ∈ (dr j).mod → hget t (Hs (j + 1)) = some s → s.Live → t' ∉ (dr j).mod → LastH b dr X t' k' → hget t' (Hs k') = some s' → s'.Live → β' t ≠ β' t' := by
      intro t t' k' s s' h1 h2 h3 h4 h5 h6 h7 he
      obtain ⟨_, bl, o, q1, _, _, _, _, q6⟩ := mine t s h1 h2 h3
      obtain ⟨bl', o', r1, r2, r3, _⟩ := other t' k' s' h5 h6 h7 h4
      rw [q1, r3] at he; injection he with he; subst he
      rcases q6 with rfl | ⟨t0, s0, g1, g2, g3, g4⟩
      · omega
      · obtain ⟨k0, k1, k2⟩ := tch t0 s0 bl g1 g2 g3 g4
        have hne0 : t0 ≠ t' := by intro e; subst e; exact h4 g1
        exact hI.A t0 k0 s0 t' k' s' k1 k2 h5 h6 g3 h7 hne0 (g4.trans r1.symm)
    rcases lastH_after hin hX hj hjX hL with ⟨h1, rfl⟩ | ⟨h1, h2⟩
    · rcases lastH_after hin hX hj hjX hL' with ⟨g1, rfl⟩ | ⟨g1, g2⟩
      · obtain ⟨⟨so, e1⟩, _⟩ := mine t s h1 hl ls
        obtain ⟨⟨so', e2⟩, _⟩ := mine t' s' g1 hl' ls'
        rw [e1] at e2; injection e2 with e2; injection e2 with e2; exact absurd e2 hne
      · exact apart1 t t' k' s s' h1 hl ls g1 g2 hl' ls'
    · rcases lastH_after hin hX hj hjX hL' with ⟨g1, rfl⟩ | ⟨g1, g2⟩
      · exact Ne.symm (apart1 t' t k s' s g1 hl' ls' h1 h2 hl ls)
      · obtain ⟨bl, o, q1, q2, q3, _⟩ := other t k s h2 hl ls h1
        obtain ⟨bl', o', r1, r2, r3, _⟩ := other t' k' s' g2 hl' ls' g1
        have := hI.A t k s t' k' s' h2 hl g2 hl' ls ls' hne
        rw [q3, r3]; rw [q1, r1] at this; exact this
  · intro i bl hb
    rcases hd.new i bl hb with h | h
    · rcases hI.F i bl h with h | ⟨j', g1, g2⟩
      · exact .inl h
      · exact .inr ⟨j', .inl g1, g2⟩
    · exact .inr ⟨j, .inr rfl, h⟩
  · intro i s hi hlive
    obtain ⟨bl, o, q1, q2, q3⟩ := hI.read i s hi hlive
    exact ⟨bl, o, hd.le _ _ q1, q2, ORel.mono hd.le _ _ q3⟩
end
end Sx
