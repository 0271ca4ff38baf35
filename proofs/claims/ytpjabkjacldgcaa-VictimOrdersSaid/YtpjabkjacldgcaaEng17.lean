/- A region that draws its order: the machine's own step at one operation of a block. No condition but the callees' own words. -/
import Derived.Test.YtpjabkjacldgcaaEng16
namespace Sx
open Go

section
variable {P : Program} {M : Mode} {ro : Hp} {ops : Array Oper} {T : List (List Nat)} {n nx m b : Nat} {Sl : Nat → Slots} {Hs : Nat → Hp} {dr : Nat → DR} {B : Base}

theorem chain_lt (hch : Chain P M ro ops n nx m b Sl Hs dr) (h0 : ∀ t v, look t (Sl 0) = some v → t < n) : ∀ j, j ≤ b → ∀ t v, look t (Sl j) = some v → t < n
  | 0, _, t, v, h => h0 t v h
  | j + 1, hj, t, v, h => by
    obtain ⟨o, cs, c1, c2, c3, c4, c5⟩ := hch.step j (by omega)
    have := put_look c4 t
    rw [this.1] at h
    by_cases e : o.dst = some t
    · exact this.2 e
    · rw [if_neg e] at h; exact chain_lt hch h0 j (by omega) t v h

theorem allIn_spec {l : List Nat} : ∀ {ks : List Nat}, allIn l ks = true → ∀ i ∈ ks, i ∈ l
  | [], _, i, h => by cases h
  | j :: r, h, i, hi => by
    simp only [allIn, Bool.and_eq_true] at h
    cases hi with
    | head => exact hasN_mem.1 h.1
    | tail _ hm => exact allIn_spec h.2 i hm
theorem mod_none {d : DR} (h : d.wh = none) (h2 : d.dl = []) : d.mod = [] := by unfold DR.mod; rw [h, h2]
theorem did_same {hp : Hp} {β : Env} {d : DR} {idn : Nat} {w : World} (h : d.wh = none) (h2 : d.dl = []) : Did hp β d idn w β w :=
  ⟨Env.le_refl _, fun _ _ h => .inl h, fun i hi => (by rw [mod_none h h2] at hi; cases hi), fun i so e => (none_ne (h.symm.trans e)).elim, fun _ _ e _ => e, rfl, rfl, rfl, Nat.le_refl _⟩
theorem did_below {hp : Hp} {β : Env} {d : DR} {idn : Nat} {w w' : World} (h : d.wh = none) (h2 : d.dl = []) (hb : RowKit.Below w.heap.size w w') : Did hp β d idn w β w' :=
  ⟨Env.le_refl _, fun _ _ h => .inl h, fun i hi => (by rw [mod_none h h2] at hi; cases hi), fun i so e => (none_ne (h.symm.trans e)).elim, fun bl o e _ => (hb.block bl (Array.getElem?_eq_some_iff.1 e).1).trans e, hb.os, hb.tape, hb.output, hb.size⟩

theorem op_did {dd : List Deferred} (hP : Named P) (hM : SumOk P M.sum) (hch : Chain P M ro ops n nx m b Sl Hs dr) (hin : Indeps T m b dr) (h0 : ∀ t v, look t (Sl 0) = some v → t < n) {X : Nat → Prop} (hX : Closed T m b X) {j : Nat}
    (hj : j < b) (hjX : ¬ X j) (hpre : ∀ i, i < b → inT T (m + i) (m + j) = true → X i) {β : Env} {tmps : Array Value} {w : World} (hI : Inv b nx Sl Hs dr ro B X β tmps w) (hsz : tmps.size = n)
    (fb : Frame) (k : List Item) (fs : List Frame) (r : List Nat) :
    ∃ (β' : Env) (w' : World) (v : Value), Did (Hs j) β (dr j) (nx + j) w β' w' ∧ Rel β' (dr j).v v ∧
      Steps P (lone (fb.atR ⟨tmps, dd⟩ (.inRegion ops ((m + j) :: r) :: k)) fs w) (lone (fb.atR (Act.put ⟨tmps, dd⟩ (dr j).dst v) (.inRegion ops r :: k)) fs w') := by
  obtain ⟨o, cs, ho, hc, hd, c4, c5⟩ := hch.step j hj
  rw [dop_dst hd]
  have hltj := chain_lt hch h0 j (by omega)
  have rdS : ∀ {t}, t ∈ (dr j).rs → ∀ v, look t (Sl j) = some v → Rel β v (tmps.getD t undef) := by
    intro t ht v hv
    obtain ⟨kk, k1, k2⟩ := read_slot hch hin hX hj hjX hpre ht
    exact hI.S t kk v k1 (by rw [k2]; exact hv)
  have rdH : ∀ {t}, t ∈ (dr j).rh → ∀ s, hget t (Hs j) = some s → ∃ kk, LastH b dr X t kk ∧ hget t (Hs kk) = some s := by
    intro t ht s hs
    obtain ⟨kk, k1, k2⟩ := read_heap hch hin hX hj hjX hpre ht
    exact ⟨kk, k1, by rw [k2]; exact hs⟩
  have hfresh : β (nx + j) = none := by
    cases hb : β (nx + j) with
    | none => rfl
    | some bl =>
      rcases hI.F _ bl hb with h | ⟨j', h1, h2⟩
      · omega
      · have : j' = j := by omega
        subst this; exact absurd h1 hjX
  simp only [dop] at hd
  split at hd <;> first | exact (none_ne hd).elim | skip
  rename_i slv e1
  split at hd <;> first | exact (none_ne hd).elim | skip
  rename_i hpv e2
  have g1 := thin_get e1
  have g2 := thinH_get e2
  -- what the views give, once the record's lists are known
  have views : (dr j).rs = opSlots ops o → (dr j).rh = touch slv o.op → Rho β slv (Act.eval ⟨tmps, dd⟩) ∧ Mem β hpv ro B w ∧ (∀ t v, look t slv = some v → t < tmps.size) := by
    intro hrs hrh
    refine ⟨⟨fun t v hv => ?_, fun _ => rfl, fun _ => rfl⟩, ⟨?_, ?_, hI.read, hI.old, hI.os, hI.tape, hI.output, hI.size, hI.pin⟩, fun t v hv => ?_⟩
    · rw [g1 t] at hv
      split at hv
      · rename_i hm; exact rdS (by rw [hrs]; exact hasN_mem.1 hm) v hv
      · cases hv
    · intro i s hi hlive
      rw [g2 i] at hi
      split at hi
      · rename_i hm
        obtain ⟨kk, k1, k2⟩ := rdH (by rw [hrh]; exact hasN_mem.1 hm) s hi
        exact hI.H i kk s k1 k2 hlive
      · cases hi
    · intro i i' s s' hi hi' ls ls' hne
      rw [g2 i] at hi
      rw [g2 i'] at hi'
      split at hi
      · rename_i hm
        split at hi'
        · rename_i hm'
          obtain ⟨kk, k1, k2⟩ := rdH (by rw [hrh]; exact hasN_mem.1 hm) s hi
          obtain ⟨kk', k1', k2'⟩ := rdH (by rw [hrh]; exact hasN_mem.1 hm') s' hi'
          exact hI.A i kk s i' kk' s' k1 k2 k1' k2' ls ls' hne
        · cases hi'
      · cases hi
    · rw [g1 t] at hv
      split at hv
      · rw [hsz]; exact hltj t v hv
      · cases hv
  split at hd <;> first | exact (none_ne hd).elim | skip
  · -- passed over
    rename_i e3
    simp only [Option.some.injEq, Prod.mk.injEq] at hd
    obtain ⟨rfl, hd⟩ := hd
    obtain ⟨hrho, hmem, hlt⟩ := views (by rw [← hd]) (by rw [← hd])
    have hw := guard_rel e3 hsz hrho.slot hlt
    exact ⟨β, w, undef, did_same (by rw [← hd]) (by rw [← hd]), by rw [← hd]; trivial, .one (op_pass ho hw)⟩
  · -- it may run
    rename_i g e3
    split at hd
    · rename_i cs1 v e4
      simp only [Option.some.injEq, Prod.mk.injEq] at hd
      obtain ⟨rfl, hd⟩ := hd
      obtain ⟨hrho, hmem, hlt⟩ := views (by rw [← hd]) (by rw [← hd])
      have hw := guard_rel e3 hsz hrho.slot hlt
      cases g with
      | false => exact ⟨β, w, undef, did_same (by rw [← hd]) (by rw [← hd]), by rw [← hd]; exact ⟨fun e => Bool.noConfusion e, fun _ => rfl⟩, .one (op_pass ho hw)⟩
      | true =>
        have hc1 : All cs1 := fun p hp' => hc _ (List.mem_map_of_mem hp') rfl
        have hq : ∃ u, (execOp (Act.eval ⟨tmps, dd⟩) o).run P w = .ok (.value u) w ∧ Rel β v u := by
          unfold quietAll at e4
          split at e4
          · rename_i q eq
            injection e4 with e4; subst e4
            exact quiet_run (P := P) hmem hrho eq hc1
          · exact quiet2_run (P := P) (w := w) hrho e4 hc1
        obtain ⟨u, hu, hru⟩ := hq
        exact ⟨β, w, u, did_same (by rw [← hd]) (by rw [← hd]), by rw [← hd]; exact ⟨fun _ => hru, fun e => Bool.noConfusion e⟩, .one (op_value ho hw hu)⟩
    · split at hd <;> first | exact (none_ne hd).elim | skip
      rename_i cs1 ff gg cc xs e4
      split at hd <;> first | exact (none_ne hd).elim | skip
      rename_i ds v e5
      simp only [Option.some.injEq, Prod.mk.injEq] at hd
      obtain ⟨rfl, hd⟩ := hd
      obtain ⟨hrho, hmem, hlt⟩ := views (by rw [← hd]) (by rw [← hd])
      have hw := guard_rel e3 hsz hrho.slot hlt
      cases g with
      | false => exact ⟨β, w, undef, did_same (by rw [← hd]) (by rw [← hd]), by rw [← hd]; exact ⟨fun e => Bool.noConfusion e, fun _ => rfl⟩, .one (op_pass ho hw)⟩
      | true =>
        have hc1 : All (cs1 ++ ds) := fun p hp' => hc _ (List.mem_map_of_mem hp') rfl
        obtain ⟨w', u, hbel, hru, hst⟩ := sum_steps hM hP hrho e4 e5 hc1.left hc1.right hw fb k fs r ho
        exact ⟨β, w', u, did_below (by rw [← hd]) (by rw [← hd]) hbel, by rw [← hd]; exact ⟨fun _ => hru, fun e => Bool.noConfusion e⟩, hst⟩
  · -- it runs
    rename_i e3
    split at hd
    · rename_i cs1 v e4
      simp only [Option.some.injEq, Prod.mk.injEq] at hd
      obtain ⟨rfl, hd⟩ := hd
      obtain ⟨hrho, hmem, hlt⟩ := views (by rw [← hd]) (by rw [← hd])
      have hw := guard_rel e3 hsz hrho.slot hlt
      have hq : ∃ u, (execOp (Act.eval ⟨tmps, dd⟩) o).run P w = .ok (.value u) w ∧ Rel β v u := by
        unfold quietAll at e4
        split at e4
        · rename_i q eq
          injection e4 with e4; subst e4
          exact quiet_run (P := P) hmem hrho eq hc
        · exact quiet2_run (P := P) (w := w) hrho e4 hc
      obtain ⟨u, hu, hru⟩ := hq
      exact ⟨β, w, u, did_same (by rw [← hd]) (by rw [← hd]), by rw [← hd]; exact hru, .one (op_value ho hw hu)⟩
    · split at hd
      · rename_i cs1 v so e4
        simp only [Option.some.injEq, Prod.mk.injEq] at hd
        obtain ⟨rfl, hd⟩ := hd
        obtain ⟨hrho, hmem, hlt⟩ := views (by rw [← hd]) (by rw [← hd])
        have hw := guard_rel e3 hsz hrho.slot hlt
        obtain ⟨ob, u, hrun, hl, hor, hrel⟩ := fresh1_run (w := w) hrho e4 hc
        have hle : β.le (β.add (nx + j) w.heap.size (osize ob)) := Env.le_add hfresh
        have hru := hrel _ hle (Env.add_same ..) (Env.add_room ..)
        have hor := hor _ hle (Env.add_same ..)
        refine ⟨_, w.alloc ob, u, ⟨hle, ?_, ?_, ?_, ?_, rfl, rfl, rfl, by simp [World.size_alloc]⟩, by rw [← hd]; exact hru, .one (op_value ho hw hrun)⟩
        · intro i bl hb
          by_cases e : i = nx + j
          · exact .inr e
          · rw [Env.add_other _ _ _ e] at hb; exact .inl hb
        · intro i hi
          rw [← hd] at hi
          simp only [DR.mod, List.mem_cons, List.not_mem_nil, or_false] at hi
          exact .inl hi
        · intro i so' e _
          rw [← hd] at e; simp only [Option.some.injEq, Prod.mk.injEq] at e
          obtain ⟨rfl, rfl⟩ := e
          exact ⟨w.heap.size, ob, Env.add_same .., by show (w.heap.push ob)[w.heap.size]? = _; simp, hor, ⟨hl, by rw [Env.add_room]; exact Nat.le_refl _⟩, .inl rfl⟩
        · intro bl o' he _
          rw [RowKit.Below.heap_alloc w ob bl (Array.getElem?_eq_some_iff.1 he).1]; exact he
      · split at hd
        · rename_i cs1 i so e4
          rw [cond_eq_ite] at hd
          split at hd <;> first | exact (none_ne hd).elim | skip
          rename_i hin'
          simp only [Option.some.injEq, Prod.mk.injEq] at hd
          obtain ⟨rfl, hd⟩ := hd
          obtain ⟨hrho, hmem, hlt⟩ := views (by rw [← hd]) (by rw [← hd])
          have hw := guard_rel e3 hsz hrho.slot hlt
          obtain ⟨w', o', hrun, ⟨hm, hlo⟩, hwr⟩ := store1_run (P := P) hmem hrho e4 hc
          obtain ⟨bl, ob, q1, q2, q3, q4, q5⟩ := hwr.at_
          have hg := g2 i
          rw [hm, if_pos hin'] at hg
          have hmod : i ∈ (dr j).mod := by rw [← hd]; simp [DR.mod]
          refine ⟨β, w', undef, ⟨Env.le_refl _, fun _ _ h => .inl h, ?_, ?_, ?_, hwr.os, hwr.tape, hwr.output, by rw [hwr.size]; exact Nat.le_refl _⟩, by rw [← hd]; trivial, .one (op_unit ho hw hrun)⟩
          · intro i' hi
            rw [← hd] at hi ⊢
            simp only [DR.mod, List.mem_cons, List.not_mem_nil, or_false] at hi
            subst hi
            exact .inr (hasN_mem.1 hin')
          · intro i' so' e _
            have e0 := e
            rw [← hd] at e; simp only [Option.some.injEq, Prod.mk.injEq] at e
            obtain ⟨rfl, rfl⟩ := e
            exact ⟨bl, ob, q1, q2, q3, q4, .inr ⟨i, o', hmod, hg.symm, hlo, q1⟩⟩
          · intro bl' o2 he hno
            by_cases e : bl' = bl
            · subst e; exact (hno i o' hmod hg.symm hlo q1).elim
            · rw [q5 bl' e]; exact he
        · split at hd
          · -- an append
            rename_i cs1 aks an am asz af ae e4
            rw [cond_eq_ite] at hd
            split at hd <;> first | exact (none_ne hd).elim | skip
            rename_i hin'
            simp only [Option.some.injEq, Prod.mk.injEq] at hd
            obtain ⟨rfl, hd⟩ := hd
            obtain ⟨hrho, hmem, hlt⟩ := views (by rw [← hd]) (by rw [← hd])
            have hw := guard_rel e3 hsz hrho.slot hlt
            obtain ⟨β', w', v, a1, a2, a3, a4, a5⟩ := app_did (nx + j) hmem hfresh hrho e4 hc
            have hks : ∀ t ∈ aks, t ∈ (dr j).rh := by rw [← hd]; exact allIn_spec hin'
            have hmod : (dr j).mod = (nx + j) :: aks := by rw [← hd]; rfl
            have hview : ∀ t s, hget t hpv = some s → hget t (Hs j) = some s := by
              intro t s ht
              rw [g2 t] at ht
              split at ht
              · exact ht
              · cases ht
            refine ⟨β', w', v, ⟨a1, a5.new, ?_, ?_, ?_, a5.os, a5.tape, a5.output, a5.size⟩, by rw [← hd]; exact a3, .one (op_value ho hw a2)⟩
            · intro i hi
              rw [hmod] at hi
              cases hi with
              | head => exact .inl rfl
              | tail _ hm => exact .inr (hks i hm)
            · intro i so' e hl
              rw [← hd] at e; simp only [Option.some.injEq, Prod.mk.injEq] at e
              obtain ⟨rfl, rfl⟩ := e
              obtain ⟨bl, ob, b1, b2, b3, b4, b5⟩ := a4 hl
              refine ⟨bl, ob, b1, b2, b3, b4, ?_⟩
              rcases b5 with b5 | ⟨t, s, c1, c2, c3, c4⟩
              · exact .inl b5
              · exact .inr ⟨t, s, by rw [hmod]; exact List.mem_cons_of_mem _ c1, hview t s c2, c3, c4⟩
            · intro bl o2 he hno
              exact a5.kept bl o2 he (fun t s h1 h2 h3 h4 => hno t s (by rw [hmod]; exact List.mem_cons_of_mem _ h1) (hview t s h2) h3 h4)
          · split at hd <;> first | exact (none_ne hd).elim | skip
            rename_i cs1 ff gg cc xs e4
            split at hd <;> first | exact (none_ne hd).elim | skip
            rename_i ds v e5
            simp only [Option.some.injEq, Prod.mk.injEq] at hd
            obtain ⟨rfl, hd⟩ := hd
            obtain ⟨hrho, hmem, hlt⟩ := views (by rw [← hd]) (by rw [← hd])
            have hw := guard_rel e3 hsz hrho.slot hlt
            obtain ⟨w', u, hbel, hru, hst⟩ := sum_steps hM hP hrho e4 e5 hc.left hc.right hw fb k fs r ho
            exact ⟨β, w', u, did_below (by rw [← hd]) (by rw [← hd]) hbel, by rw [← hd]; exact hru, hst⟩
end
end Sx
