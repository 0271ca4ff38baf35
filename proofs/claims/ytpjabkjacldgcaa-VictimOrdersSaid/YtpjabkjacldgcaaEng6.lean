/- The symbolic machine's operations that make or write memory. No condition. -/
import Derived.Test.YtpjabkjacldgcaaEng5
namespace Sx
open Go

/-- A new block. -/
theorem Mem.new {β : Env} {hp ro : Hp} {B : Base} {w : World} (hs : Mem β hp ro B w) (i : Nat) (hi : β i = none) (so : SO) (ob : Obj) (hB : ∀ b o, B.D b = some o → b < B.w.heap.size)
    (hor : ORel (β.add i w.heap.size (osize ob)) so ob) (hl : loose ob) : Mem (β.add i w.heap.size (osize ob)) ((i, so) :: hp) ro B (w.alloc ob) := by
  have hold : ∀ b, b < w.heap.size → (w.alloc ob).heap[b]? = w.heap[b]? := fun b hb => RowKit.Below.heap_alloc w ob b hb
  have hnew : (w.alloc ob).heap[w.heap.size]? = some ob := by show (w.heap.push ob)[w.heap.size]? = _; simp
  have hle : β.le (β.add i w.heap.size (osize ob)) := Env.le_add hi
  have hlt : ∀ b o, w.heap[b]? = some o → b < w.heap.size := fun b o h => (Array.getElem?_eq_some_iff.1 h).1
  refine ⟨?_, ?_, ?_, ?_, hs.os, hs.tape, hs.output, ?_, Env.le_trans hs.pin hle⟩
  · intro j s hj hlive
    simp only [hget] at hj
    cases hb : Nat.beq j i with
    | true =>
      rw [hb] at hj; simp only [cond_true, Option.some.injEq] at hj; subst hj
      have := beq_nat hb; subst this
      refine ⟨w.heap.size, ob, Env.add_same .., ?_, hnew, hor, hl, by rw [Env.add_room]; exact Nat.le_refl _⟩
      cases hD : B.D w.heap.size with
      | none => rfl
      | some o => have := hB _ _ hD; have := hs.size; omega
    | false =>
      rw [hb] at hj
      obtain ⟨b, o, h1, h2, h3, h4, h5⟩ := hs.own j s hj hlive
      exact ⟨b, o, hle _ _ h1, h2, by rw [hold b (hlt b o h3)]; exact h3, ORel.mono hle _ _ h4, h5.l, by rw [hle.r _ _ h1]; exact h5.s⟩
  · have kk : ∀ j s, hget j ((i, so) :: hp) = some s → s.Live → j = i ∨ (j ≠ i ∧ hget j hp = some s ∧ ∃ b, β j = some b ∧ b < w.heap.size) := by
      intro j s hj hlive
      simp only [hget] at hj
      cases hb : Nat.beq j i with
      | true => exact .inl (beq_nat hb)
      | false =>
        rw [hb] at hj
        obtain ⟨b, o, h1, h2, h3, h4, h5⟩ := hs.own j s hj hlive
        refine .inr ⟨?_, hj, b, h1, hlt b o h3⟩
        intro e; rw [e, hi] at h1; cases h1
    intro j k s t hj hk ls lt hne
    rcases kk j s hj ls with rfl | ⟨h1, h2, b, h3, h4⟩
    · rcases kk k t hk lt with rfl | ⟨g1, g2, b', g3, g4⟩
      · exact absurd rfl hne
      · rw [Env.add_same, Env.add_other _ _ _ g1, g3]; simp; omega
    · rcases kk k t hk lt with rfl | ⟨g1, g2, b', g3, g4⟩
      · rw [Env.add_same, Env.add_other _ _ _ h1, h3]; simp; omega
      · have := hs.apart j k s t h2 g2 ls lt hne
        rw [Env.add_other _ _ _ h1, Env.add_other _ _ _ g1]; exact this
  · intro j s hj hlive
    obtain ⟨b, o, h1, h2, h3⟩ := hs.read j s hj hlive
    exact ⟨b, o, hle _ _ h1, h2, ORel.mono hle _ _ h3⟩
  · intro b o hD; rw [hold b (hlt b o (hs.old b o hD))]; exact hs.old b o hD
  · have := hs.size; simp [World.size_alloc]; omega
theorem Sat.new {β : Env} {hp ro : Hp} {B : Base} {nx : Nat} {w : World} (hs : Sat β hp ro B nx w) (so : SO) (ob : Obj) (hB : ∀ b o, B.D b = some o → b < B.w.heap.size)
    (hor : ∀ β' : Env, β.le β' → β' nx = some w.heap.size → ORel β' so ob) (hl : loose ob) :
    ∃ β' : Env, β.le β' ∧ β' nx = some w.heap.size ∧ β'.room nx = osize ob ∧ Sat β' ((nx, so) :: hp) ro B (nx + 1) (w.alloc ob) := by
  have hle : β.le (β.add nx w.heap.size (osize ob)) := Env.le_add (hs.fresh nx (Nat.le_refl _))
  have hm := hs.toMem.new nx (hs.fresh nx (Nat.le_refl _)) so ob hB (hor _ hle (Env.add_same ..)) hl
  refine ⟨_, hle, Env.add_same .., Env.add_room .., hm, ?_⟩
  intro i hi
  rw [Env.add_other _ _ _ (by omega)]; exact hs.fresh i (by omega)

theorem beq_ne {a b : Nat} (h : Nat.beq a b = false) : a ≠ b := by intro e; subst e; rw [Nat.beq_refl] at h; cases h
theorem beq_false_of {a b : Nat} (h : a ≠ b) : Nat.beq a b = false := by
  cases hb : Nat.beq a b with
  | true => exact absurd (beq_nat hb) h
  | false => rfl
theorem hset_get {i : Nat} {o : SO} : ∀ {hp hp' : Hp}, hset i o hp = some hp' → ∀ (j : Nat), hget j hp' = if j = i then (hget i hp).map (fun _ => o) else hget j hp
  | [], hp', hh, j => by injection hh with hh; subst hh; simp [hget]
  | (k, v) :: r, hp', hh, j => by
    simp only [hset] at hh
    split at hh
    case h_2 => cases hh
    rename_i r' hr
    have ih := hset_get hr j
    cases hb : Nat.beq i k with
    | true =>
      rw [hb] at hh; simp only [cond_true, Option.some.injEq] at hh
      subst hh
      have := beq_nat hb; subst this
      simp only [hget, Nat.beq_refl, cond_true]
      by_cases hj : j = i
      · subst hj; simp
      · rw [beq_false_of hj, if_neg hj]; simp only [cond_false]; rw [ih, if_neg hj]
    | false =>
      rw [hb] at hh; simp only [cond_false, Option.some.injEq] at hh
      subst hh
      simp only [hget]
      by_cases hj : j = i
      · subst hj; rw [hb, if_pos rfl]; simp only [cond_false]; rw [ih, if_pos rfl]
      · rw [if_neg hj, ih, if_neg hj]

/-- A known block, written anew. -/
theorem Mem.set {β : Env} {hp ro : Hp} {B : Base} {w w' : World} (hs : Mem β hp ro B w) {i b : Nat} {o : SO} {so : SO} {ob : Obj} {hp' : Hp} (hset' : hset i so hp = some hp') (hio : hget i hp = some o ∧ o.Live) (hb : β i = some b)
    (hor : ORel β so ob) (hl : Fit (β.room i) ob) (h1 : w'.heap[b]? = some ob) (h2 : ∀ k, k ≠ b → w'.heap[k]? = w.heap[k]?) (h3 : w'.heap.size = w.heap.size)
    (h4 : w'.os = w.os) (h5 : w'.tape = w.tape) (h6 : w'.output = w.output) : Mem β hp' ro B w' := by
  obtain ⟨hi, hlo⟩ := hio
  obtain ⟨b', o', k1, k2, k3, k4, k5⟩ := hs.own _ _ hi hlo
  rw [hb] at k1; injection k1 with k1; subst k1
  have hg := hset_get hset'
  have live : ∀ j s, hget j hp' = some s → s.Live → ∃ s', hget j hp = some s' ∧ s'.Live := by
    intro j s hj hlive
    rw [hg j] at hj
    by_cases e : j = i
    · subst e; exact ⟨o, hi, hlo⟩
    · rw [if_neg e] at hj; exact ⟨s, hj, hlive⟩
  refine ⟨?_, ?_, hs.read, ?_, h4.trans hs.os, h5.trans hs.tape, h6.trans hs.output, by rw [h3]; exact hs.size, hs.pin⟩
  · intro j s hj hlive
    rw [hg j] at hj
    by_cases e : j = i
    · subst e
      rw [if_pos rfl, hi] at hj; simp at hj; subst hj
      exact ⟨b, ob, hb, k2, h1, hor, hl⟩
    · rw [if_neg e] at hj
      obtain ⟨b2, ob2, g1, g2, g3, g4, g5⟩ := hs.own j s hj hlive
      refine ⟨b2, ob2, g1, g2, ?_, g4, g5⟩
      rw [h2 b2 ?_]; exact g3
      intro e'; subst e'
      exact hs.apart j i s o hj hi hlive hlo e (g1.trans hb.symm)
  · intro j k s t hj hk ls lt hne
    obtain ⟨s', hj', ls'⟩ := live j s hj ls
    obtain ⟨t', hk', lt'⟩ := live k t hk lt
    exact hs.apart j k s' t' hj' hk' ls' lt' hne
  · intro k ok hD
    rw [h2 k ?_]; exact hs.old k ok hD
    intro e; subst e; rw [k2] at hD; cases hD

theorem RelL.append {β : Env} : ∀ {a b : List SV} {x y : List Value}, RelL β a x → RelL β b y → RelL β (a ++ b) (x ++ y)
  | [], b, x, y, h, hb => by simp only [RelL] at h; subst h; exact hb
  | s :: a, b, x, y, h, hb => by obtain ⟨v, vs, rfl, hv, hl⟩ := h; exact ⟨v, vs ++ y, rfl, hv, RelL.append hl hb⟩

theorem setAt_spec : ∀ {us : List SV} {k : Nat} {vs r : List SV}, setAt us k vs = some r → r = us.take k ++ vs ++ us.drop (k + vs.length) ∧ k + vs.length ≤ us.length
  | us, 0, [], r, h => by simp [setAt] at h; subst h; simp
  | x :: us, 0, v :: vs, r, h => by
    simp only [setAt] at h
    split at h
    · rename_i r' hr
      injection h with h; subst h
      obtain ⟨h1, h2⟩ := setAt_spec hr
      subst h1
      simp at h2 ⊢
      exact h2
    · cases h
  | x :: us, k + 1, vs, r, h => by
    simp only [setAt] at h
    split at h
    · rename_i r' hr
      injection h with h; subst h
      obtain ⟨h1, h2⟩ := setAt_spec hr
      subst h1
      refine ⟨?_, by simp; omega⟩
      rw [show k + 1 + vs.length = k + vs.length + 1 by omega]
      simp
    · cases h
  | [], 0, v :: vs, r, h => by simp [setAt] at h
  | [], k + 1, vs, r, h => by simp [setAt] at h

theorem cells_rel {β : Env} {s : SV} {v : Value} (h : Rel β s v) (hs : ∀ g x, s ≠ .cnd g x) (hu : s ≠ .und) : RelL β s.cells v.cells.toList := by
  cases s <;> first
    | (simp only [Rel] at h; subst h; exact ⟨_, [], rfl, rfl, rfl⟩)
    | exact absurd rfl (hs _ _)
    | exact absurd rfl hu
    | (obtain ⟨b, hb, rfl⟩ := h; exact ⟨_, [], rfl, ⟨b, hb, rfl⟩, rfl⟩)
    | (obtain ⟨b, o, hb, r, rfl, ho⟩ := h; exact ⟨_, [], rfl, ⟨b, o, hb, r, rfl, ho⟩, rfl⟩)
    | (obtain ⟨base, room, rfl, ho⟩ := h; exact ⟨_, [], rfl, ⟨base, room, rfl, ho⟩, rfl⟩)
    | (obtain ⟨us, ws, rfl, ho⟩ := h; exact ⟨_, [], rfl, ⟨us, ws, rfl, ho⟩, rfl⟩)
    | (obtain ⟨us, rfl, hl⟩ := h; first | exact hl | exact ⟨_, [], rfl, ⟨us, rfl, hl⟩, rfl⟩)

theorem storable_one {β : Env} {s : SV} (h : storable s = true) {v : Value} (hr : Rel β s v) : v.oneCell' = true := by
  cases s <;> first
    | (simp [storable] at h; done)
    | (simp only [Rel] at hr; subst hr; rfl)
    | (obtain ⟨b, hb, rfl⟩ := hr; rfl)
    | (obtain ⟨b, o, hb, r, rfl, ho⟩ := hr; rfl)
    | (obtain ⟨us, ws, rfl, ho⟩ := hr; rfl)
    | (obtain ⟨u, rfl, ho⟩ := hr; rfl)

theorem all_storable {β : Env} : ∀ {ss : List SV} {vs : List Value}, ss.all storable = true → RelL β ss vs → ∀ v ∈ vs, v.oneCell' = true
  | [], vs, _, h, v, hv => by simp only [RelL] at h; subst h; cases hv
  | s :: ss, vs, ha, h, v, hv => by
    obtain ⟨u, us, rfl, hu, hl⟩ := h
    simp at ha
    cases hv with
    | head => exact storable_one ha.1 hu
    | tail _ hm => exact all_storable (by simpa using ha.2) hl v hm

/-- Cells of a block, written. -/
theorem owrite_rel {β : Env} {o o' : SO} {off e sz k : Nat} {vs : List SV} {cs : List Prop} (h : owrite o off e sz k vs = some (cs, o')) (hc : All cs) {ob : Obj} (hr : ORel β o ob) (hl : loose ob)
    {us : List Value} (hv : RelL β vs us) :
    ∃ (c : Array Value) (t : TypeId), ob = .cells c t (0, 0) ∧ off + e * sz + k + us.length ≤ c.size ∧
      ORel β o' (.cells (c.toList.take (off + e * sz + k) ++ us ++ c.toList.drop (off + e * sz + k + us.length)).toArray t (0, 0)) := by
  have hlen := hv.length
  cases o with
  | cells ws ty =>
    obtain ⟨xs, rfl, hx⟩ := hr
    simp only [owrite] at h
    split at h
    · rename_i r hset
      simp only [Option.some.injEq, Prod.mk.injEq] at h
      obtain ⟨rfl, rfl⟩ := h
      obtain ⟨rfl, hle⟩ := setAt_spec hset
      have hxl := hx.length
      refine ⟨_, _, rfl, by simp; omega, _, rfl, ?_⟩
      rw [← hlen]
      exact ((hx.take _).append hv).append (hx.drop _)
    · cases h
  | row off' n cap sz' f ty =>
    obtain ⟨c, fz, tt, htt, rfl, hn, hcc, hf⟩ := hr
    simp only [loose] at hl; subst hl
    simp only [owrite] at h
    cases hb : (Nat.beq sz sz' && Nat.ble (k + vs.length) sz) with
    | false => rw [hb] at h; cases h
    | true =>
      rw [hb] at h
      simp only [cond_true, Option.some.injEq, Prod.mk.injEq] at h
      obtain ⟨rfl, rfl⟩ := h
      simp only [Bool.and_eq_true] at hb
      obtain ⟨h2, h3⟩ := hb
      have h2 := beq_nat h2; have h3 := ble_nat h3
      obtain ⟨h1, he⟩ : off = off' ∧ e < n := hc.head
      subst h1 h2
      have hbound : off + e * sz + k + us.length ≤ c.size := by
        have : (e + 1) * sz ≤ cap * sz := Nat.mul_le_mul_right _ (by omega)
        rw [Nat.add_mul] at this
        omega
      refine ⟨c, tt, rfl, hbound, _, _, tt, htt, rfl, hn, by simp; omega, ?_⟩
      intro i j hi hj
      have hsz : ∀ a b : Nat, a < b → a * sz + sz ≤ b * sz := by
        intro a b hab
        have : (a + 1) * sz ≤ b * sz := Nat.mul_le_mul_right _ hab
        rwa [Nat.add_mul, Nat.one_mul] at this
      unfold updF
      by_cases hin : i = e ∧ k ≤ j ∧ j < k + vs.length
      · rw [if_pos hin]
        obtain ⟨rfl, h5, h6⟩ := hin
        have hg : vs[j - k]? = some (vs.getD (j - k) .und) := by
          rw [List.getD_eq_getElem?_getD, List.getElem?_eq_getElem (by omega)]; rfl
        obtain ⟨u, hu, hur⟩ := hv.get hg
        refine ⟨u, ?_, hur⟩
        simp only [List.getElem?_toArray]
        rw [List.getElem?_append_left (by simp; omega), List.getElem?_append_right (by simp; omega)]
        rw [← hu]
        congr 1
        simp; omega
      · rw [if_neg hin]
        obtain ⟨u, hu, hur⟩ := hf i j hi hj
        refine ⟨u, ?_, hur⟩
        have hib : off + i * sz + j < c.size := (Array.getElem?_eq_some_iff.1 hu).1
        simp only [List.getElem?_toArray]
        have hcase : off + i * sz + j < off + e * sz + k ∨ off + e * sz + k + us.length ≤ off + i * sz + j := by
          rcases Nat.lt_trichotomy i e with hlt | heq | hgt
          · have := hsz i e hlt; omega
          · subst heq
            have : ¬ (k ≤ j ∧ j < k + vs.length) := fun hh => hin ⟨rfl, hh⟩
            omega
          · have := hsz e i hgt; omega
        rcases hcase with hlt | hge
        · rw [List.getElem?_append_left (by simp; omega), List.getElem?_append_left (by simp; omega), List.getElem?_take, if_pos hlt]
          simpa using hu
        · rw [List.getElem?_append_right (by simp; omega), List.getElem?_drop]
          rw [← hu]
          simp
          congr 1
          omega
  | obj o' => cases h
  | lp => cases h

theorem owrite_live {o o' : SO} {off e sz k : Nat} {vs : List SV} {cs : List Prop} (h : owrite o off e sz k vs = some (cs, o')) (hc : All cs) : o.Live := by
  cases o with
  | row off' n cap sz' f ty =>
    simp only [owrite] at h
    cases hb : (Nat.beq sz sz' && Nat.ble (k + vs.length) sz) with
    | false => rw [hb] at h; cases h
    | true =>
      rw [hb] at h
      simp only [cond_true, Option.some.injEq, Prod.mk.injEq] at h
      obtain ⟨rfl, rfl⟩ := h
      have := hc.head
      show 0 < n
      omega
  | cells => trivial
  | obj => trivial
  | lp => trivial
/-- What a store makes of a known block. -/
structure Wrote (β : Env) (i : Nat) (so : SO) (w w' : World) : Prop where
  at_ : ∃ b ob, β i = some b ∧ w'.heap[b]? = some ob ∧ ORel β so ob ∧ Fit (β.room i) ob ∧ ∀ k, k ≠ b → w'.heap[k]? = w.heap[k]?
  size : w'.heap.size = w.heap.size
  os : w'.os = w.os
  tape : w'.tape = w.tape
  output : w'.output = w.output
theorem Mem.wrote {β : Env} {hp hp' ro : Hp} {B : Base} {w w' : World} (hs : Mem β hp ro B w) {i : Nat} {o so : SO} (hi : hget i hp = some o ∧ o.Live) (hset' : hset i so hp = some hp') (h : Wrote β i so w w') : Mem β hp' ro B w' := by
  obtain ⟨b, ob, h1, h2, h3, h4, h5⟩ := h.at_
  exact hs.set hset' hi h1 h3 h4 h2 h5 h.size h.os h.tape h.output

theorem store_run {P : Program} {β : Env} {hp ro : Hp} {B : Base} {w : World} (hs : Mem β hp ro B w) {t : TypeId} {a s : SV} {cs : List Prop} {i : Nat} {so : SO}
    (h : store P hp t a s = some (cs, i, so)) (hc : All cs) {v x : Value} (hr : Rel β a v) (hx : Rel β s x) :
    ∃ w' o, (Instr.storeAt t v x).run P w = .ok () w' ∧ (hget i hp = some o ∧ o.Live) ∧ Wrote β i so w w' := by
  unfold store at h
  split at h
  · rename_i m i' off e sz k hm hpl
    cases hb : (Nat.beq s.cells.length m && s.cells.all storable) with
    | false => rw [hb] at h; cases h
    | true =>
      rw [hb] at h
      simp only [cond_true] at h
      simp only [Bool.and_eq_true] at hb
      have hlen := beq_nat hb.1
      split at h
      · rename_i o ho
        split at h
        · rename_i cs' o' how
          simp only [Option.some.injEq, Prod.mk.injEq] at h
          obtain ⟨rfl, rfl, rfl⟩ := h
          obtain ⟨b, hβ, rfl⟩ := oplace_rel hpl hr
          obtain ⟨b', ob, k1, k2, k3, k4, k5⟩ := hs.own _ _ ho (owrite_live how hc)
          rw [hβ] at k1; injection k1 with k1; subst k1
          have hns : (∀ g y, s ≠ .cnd g y) ∧ s ≠ .und := by
            constructor
            · rintro g y rfl; simp [SV.cells, storable] at hb
            · rintro rfl; simp [SV.cells, storable] at hb
          have hcl := cells_rel hx hns.1 hns.2
          obtain ⟨c, ty, rfl, hbd, hor⟩ := owrite_rel how hc k4 k5.l hcl
          have hst := run_storeCells_at (P := P) b (off + e * sz + k) ty x.cells.toList 0 c w k3 (by simpa using hbd) (all_storable hb.2 hcl)
          have hsize : x.cells.size = m := by have := hcl.length; simp at this; omega
          refine ⟨w.setRow b (c.toList.take (off + e * sz + k) ++ x.cells.toList ++ c.toList.drop (off + e * sz + k + x.cells.toList.length)).toArray, _, ?_, ⟨ho, owrite_live how hc⟩, ⟨b, _, hβ, setRow_heap w b c _ ty (0, 0) k3, hor, ⟨rfl, by
            have h0 : β.room i' ≤ c.size := k5.s
            show β.room i' ≤ Array.size _
            simp at hbd ⊢; omega⟩, ?_⟩, ?_, rfl, rfl, rfl⟩
          · simp only [Instr.storeAt, Instr.sureAddr, storeVar, Sem.run_bind, Sem.run_pure, Result.andThen, run_size hm]
            simp only [Sem.run_ite, hsize, ne_eq, not_true_eq_false, if_false]
            simpa [Result.andThen] using hst
          · intro j hj
            simp only [World.setRow, Array.getElem?_modify]
            rw [if_neg (fun e => hj e.symm)]
          · simp [World.setRow]
        · cases h
      · cases h
  · cases h
end Sx
