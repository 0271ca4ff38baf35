/- An append to a slice whose block is known from its first element on. Conditions: as the theorem says. -/
import Derived.Test.YtpjabkjacldgcaaEng6
import Derived.Laws.AppendOwn
import Derived.Deep.Upon
namespace Sx
open Go
theorem bif_some {α : Type} {c : Bool} {a r : α} (h : (bif c then some a else none) = some r) : c = true ∧ a = r := by
  cases c with
  | true => exact ⟨rfl, by simpa using h⟩
  | false => cases h
def hasN (i : Nat) : List Nat → Bool
  | [] => false
  | j :: r => bif Nat.beq i j then true else hasN i r
theorem hasN_iff {i : Nat} : ∀ {l : List Nat}, hasN i l = true ↔ i ∈ l
  | [] => by simp [hasN]
  | j :: r => by
    simp only [hasN]
    cases hb : Nat.beq i j with
    | true => have := beq_nat hb; subst this; simp
    | false => have := beq_ne hb; simp [this, hasN_iff]
def hdrop {α : Type} (ks : List Nat) : Hp → (Hp → α) → α
  | [], f => f []
  | (i, s) :: r, f => hdrop ks r fun r => bif hasN i ks then f r else f ((i, s) :: r)
def hdrop' (ks : List Nat) : Hp → Hp
  | [] => []
  | (i, s) :: r => bif hasN i ks then hdrop' ks r else (i, s) :: hdrop' ks r
theorem hdrop_eq {α : Type} (ks : List Nat) : ∀ (h : Hp) (f : Hp → α), hdrop ks h f = f (hdrop' ks h)
  | [], f => rfl
  | (i, s) :: r, f => by simp only [hdrop, hdrop_eq ks r, hdrop']; cases hasN i ks <;> rfl
theorem hdrop_get {ks : List Nat} {i : Nat} : ∀ {h : Hp}, hget i (hdrop' ks h) = if i ∈ ks then none else hget i h
  | [] => by simp [hdrop', hget]
  | (j, s) :: r => by
    have ih := hdrop_get (ks := ks) (i := i) (h := r)
    simp only [hdrop']
    cases hk : hasN j ks with
    | true =>
      simp only [cond_true]
      rw [ih]
      by_cases hi : i ∈ ks
      · rw [if_pos hi, if_pos hi]
      · rw [if_neg hi, if_neg hi]
        have : i ≠ j := by rintro rfl; exact hi (hasN_iff.1 hk)
        simp only [hget, beq_false_of this, cond_false]
    | false =>
      simp only [cond_false, hget]
      cases hb : Nat.beq i j with
      | true =>
        have := beq_nat hb; subst this
        have : i ∉ ks := by intro e; rw [hasN_iff.2 e] at hk; cases hk
        rw [if_neg this]; rfl
      | false => simp only [cond_false]; exact ih
/-- m elements of a block from the s-th on. -/
def elems (off s sz m : Nat) : SO → Option (List Prop × (Nat → Nat → SV))
  | .cells us _ => bif us.all storable && Nat.beq off 0 then some ([(s + m) * sz ≤ us.length], fun i k => us.getD ((s + i) * sz + k) .und) else none
  | .row off' n _ sz' f _ => bif Nat.beq sz sz' then some ([off = off' ∧ s + m ≤ n, ∀ i k, i < m → k < sz → storable (f (s + i) k) = true], fun i k => f (s + i) k) else none
  | .obj _ => none
  | .lp .. => none

theorem elems_rel {β : Env} {off s sz m : Nat} {so : SO} {cs : List Prop} {g : Nat → Nat → SV} (h : elems off s sz m so = some (cs, g)) (hc : All cs) {ob : Obj} (hr : ORel β so ob) :
    ∃ (c : Array Value) (ty : TypeId) (fz : Nat × Nat), ob = .cells c ty fz ∧ off + (s + m) * sz ≤ c.size ∧ ∀ i k, i < m → k < sz → ∃ u, c[off + (s + i) * sz + k]? = some u ∧ Rel β (g i k) u ∧ storable (g i k) = true := by
  have hmul : ∀ i k, i < m → k < sz → (s + i) * sz + k < (s + m) * sz := by
    intro i k hi hk
    have : (s + i + 1) * sz ≤ (s + m) * sz := Nat.mul_le_mul_right _ (by omega)
    rw [Nat.add_mul (s + i)] at this; omega
  cases so with
  | cells us ty =>
    simp only [elems] at h
    obtain ⟨h1, h2⟩ := bif_some h
    simp only [Prod.mk.injEq] at h2
    obtain ⟨rfl, rfl⟩ := h2
    simp only [Bool.and_eq_true] at h1
    have h2 := beq_nat h1.2; subst h2
    obtain ⟨xs, rfl, hx⟩ := hr
    have hlen := hx.length
    have hle : (s + m) * sz ≤ us.length := hc.head
    refine ⟨_, _, _, rfl, by simp; omega, fun i k hi hk => ?_⟩
    have := hmul i k hi hk
    have hg : us[(s + i) * sz + k]? = some (us.getD ((s + i) * sz + k) .und) := by
      rw [List.getD_eq_getElem?_getD, List.getElem?_eq_getElem (by omega)]; rfl
    obtain ⟨u, hu, hur⟩ := hx.get hg
    refine ⟨u, by simpa using hu, hur, ?_⟩
    exact List.all_eq_true.1 h1.1 _ (List.mem_of_getElem? hg)
  | row off' n cap sz' f ty =>
    simp only [elems] at h
    obtain ⟨h1, h2⟩ := bif_some h
    simp only [Prod.mk.injEq] at h2
    obtain ⟨rfl, rfl⟩ := h2
    have e2 := beq_nat h1; subst e2
    obtain ⟨c, fz, tt, _, rfl, g1, g2, g3⟩ := hr
    obtain ⟨e1, k1⟩ : off = off' ∧ s + m ≤ n := hc.head
    subst e1
    have k2 : ∀ i k, i < m → k < sz → storable (f (s + i) k) = true := hc _ (List.mem_cons_of_mem _ (List.mem_cons_self ..))
    refine ⟨c, tt, fz, rfl, ?_, fun i k hi hk => ?_⟩
    · have : (s + m) * sz ≤ cap * sz := Nat.mul_le_mul_right _ (by omega)
      omega
    · obtain ⟨u, hu, hur⟩ := g3 (s + i) k (by omega) hk
      exact ⟨u, hu, hur, k2 i k hi hk⟩
  | obj o => simp [elems] at h
  | lp => simp [elems] at h

def appF (f : Nat → Nat → SV) (n : Nat) (g : Nat → Nat → SV) : Nat → Nat → SV := fun i k => bif Nat.blt i n then f i k else g (i - n) k

/-- The row after an append, whatever its block. -/
theorem app_row {β : Env} {f g : Nat → Nat → SV} {n m sz cap : Nat} {e : TypeId} {fz : Nat × Nat} {olds news : List Value} {c : Array Value} {rest : List Value} (hc : c.toList = olds ++ news ++ rest) (hl : olds.length = n * sz) (hm : news.length = m * sz)
    (hcap : n + m ≤ cap) (hsz : cap * sz ≤ c.size) (ho : ∀ i k, i < n → k < sz → ∃ u, olds[i * sz + k]? = some u ∧ Rel β (f i k) u) (hn : ∀ i k, i < m → k < sz → ∃ u, news[i * sz + k]? = some u ∧ Rel β (g i k) u) :
    ORel β (.row 0 (n + m) cap sz (appF f n g) e) (.cells c e fz) := by
  refine ⟨c, fz, e, .inr rfl, rfl, hcap, by omega, fun i k hi hk => ?_⟩
  have hlt : ∀ a b, a < b → k < sz → a * sz + k < b * sz := by
    intro a b hab hk
    have : (a + 1) * sz ≤ b * sz := Nat.mul_le_mul_right _ hab
    rw [Nat.add_mul] at this; omega
  have hget : c[0 + i * sz + k]? = (olds ++ news ++ rest)[i * sz + k]? := by rw [← hc]; simp
  rw [hget]
  by_cases h : i < n
  · have hb : Nat.blt i n = true := by simpa [Nat.blt_eq] using h
    obtain ⟨u, hu, hur⟩ := ho i k h hk
    refine ⟨u, ?_, by simpa [appF, hb] using hur⟩
    rw [List.append_assoc, List.getElem?_append_left (by have := hlt i n h hk; omega)]
    exact hu
  · have hb : Nat.blt i n = false := by
      cases hh : Nat.blt i n with
      | false => rfl
      | true => exact absurd (by simpa [Nat.blt_eq] using hh) h
    obtain ⟨u, hu, hur⟩ := hn (i - n) k (by omega) hk
    refine ⟨u, ?_, by simpa [appF, hb] using hur⟩
    have e1 : i * sz = n * sz + (i - n) * sz := by rw [← Nat.add_mul]; congr 1; omega
    have h2 := hlt (i - n) m (by omega) hk
    rw [List.getElem?_append_left (by rw [List.length_append]; omega), List.getElem?_append_right (by omega)]
    rw [show i * sz + k - olds.length = (i - n) * sz + k by omega]
    exact hu

/-- A known block goes on under a new name, written anew. -/
theorem Sat.moved {β : Env} {hp ro : Hp} {B : Base} {nx : Nat} {w w' : World} (hs : Sat β hp ro B nx w) {i b : Nat} {o : SO} {so : SO} {ob : Obj} (hi : hget i hp = some o) (hlo : o.Live) (hb : β i = some b)
    (hor : ∀ β' : Env, β.le β' → ORel β' so ob) (hl : Fit (β.room i) ob) (h1 : w'.heap[b]? = some ob) (h2 : ∀ k, k ≠ b → w'.heap[k]? = w.heap[k]?) (h3 : w'.heap.size = w.heap.size)
    (h4 : w'.os = w.os) (h5 : w'.tape = w.tape) (h6 : w'.output = w.output) :
    ∃ β' : Env, β.le β' ∧ β' nx = some b ∧ β'.room nx = β.room i ∧ Sat β' ((nx, so) :: hdrop' [i] hp) ro B (nx + 1) w' := by
  obtain ⟨b', o', k1, k2, k3, k4, k5⟩ := hs.own _ _ hi hlo
  rw [hb] at k1; injection k1 with k1; subst k1
  have hle : β.le (β.add nx b (β.room i)) := Env.le_add (hs.fresh nx (Nat.le_refl _))
  have rest : ∀ j s, hget j (hdrop' [i] hp) = some s → s.Live → hget j hp = some s ∧ j ≠ i ∧ j ≠ nx := by
    intro j s hj hlive
    rw [hdrop_get] at hj
    split at hj
    · cases hj
    · rename_i hn
      simp at hn
      refine ⟨hj, hn, ?_⟩
      intro e; subst e
      obtain ⟨b2, _, g1, _⟩ := hs.own _ _ hj hlive
      rw [hs.fresh j (Nat.le_refl _)] at g1; cases g1
  refine ⟨β.add nx b (β.room i), hle, Env.add_same .., Env.add_room .., ⟨?_, ?_, ?_, ?_, h4.trans hs.os, h5.trans hs.tape, h6.trans hs.output, by rw [h3]; exact hs.size, Env.le_trans hs.pin hle⟩, ?_⟩
  · intro j s hj hlive
    simp only [hget] at hj
    cases hbq : Nat.beq j nx with
    | true => rw [hbq] at hj; have := beq_nat hbq; subst this; injection hj with hj; subst hj; exact ⟨b, ob, Env.add_same .., k2, h1, hor _ hle, by rw [Env.add_room]; exact hl⟩
    | false =>
      rw [hbq] at hj
      obtain ⟨g1, g2, g3⟩ := rest j s hj hlive
      obtain ⟨b2, ob2, q1, q2, q3, q4, q5⟩ := hs.own j s g1 hlive
      refine ⟨b2, ob2, hle _ _ q1, q2, ?_, ORel.mono hle _ _ q4, by rw [hle.r _ _ q1]; exact q5⟩
      rw [h2 b2 ?_]; exact q3
      intro e'; subst e'
      exact hs.apart j i s o g1 hi hlive hlo g2 (q1.trans hb.symm)
  · intro j k s t hj hk ls lt hne
    have one : ∀ j s, hget j ((nx, so) :: hdrop' [i] hp) = some s → s.Live → j = nx ∨ (hget j hp = some s ∧ j ≠ i ∧ j ≠ nx) := by
      intro j s hj hlive
      simp only [hget] at hj
      cases hbq : Nat.beq j nx with
      | true => exact .inl (beq_nat hbq)
      | false => rw [hbq] at hj; exact .inr (rest j s hj hlive)
    rcases one j s hj ls with rfl | ⟨g1, g2, g3⟩ <;> rcases one k t hk lt with rfl | ⟨g1', g2', g3'⟩
    · exact absurd rfl hne
    · rw [Env.add_same, Env.add_other _ _ _ g3', ← hb]; exact hs.apart i k o t hi g1' hlo lt (Ne.symm g2')
    · rw [Env.add_same, Env.add_other _ _ _ g3, ← hb]; exact hs.apart j i s o g1 hi ls hlo g2
    · rw [Env.add_other _ _ _ g3, Env.add_other _ _ _ g3']; exact hs.apart j k s t g1 g1' ls lt hne
  · intro j s hj hlive
    obtain ⟨c, oo, g1, g2, g3⟩ := hs.read j s hj hlive
    exact ⟨c, oo, hle _ _ g1, g2, ORel.mono hle _ _ g3⟩
  · intro k ok hD
    rw [h2 k ?_]; exact hs.old k ok hD
    intro e; subst e; rw [k2] at hD; cases hD
  · intro j hj
    rw [Env.add_other _ _ _ (by omega)]; exact hs.fresh j (by omega)
theorem Sat.drop {β : Env} {hp ro : Hp} {B : Base} {nx : Nat} {w : World} (hs : Sat β hp ro B nx w) (ks : List Nat) : Sat β (hdrop' ks hp) ro B nx w := by
  have sub : ∀ j s, hget j (hdrop' ks hp) = some s → hget j hp = some s := by
    intro j s hj
    rw [hdrop_get] at hj
    split at hj
    · cases hj
    · exact hj
  exact ⟨⟨fun j s hj => hs.own j s (sub j s hj), fun j k s t hj hk ls lt hne => hs.apart j k s t (sub j s hj) (sub k t hk) ls lt hne, hs.read, hs.old, hs.os, hs.tape, hs.output, hs.size, hs.pin⟩, hs.fresh⟩
theorem Sat.drew {β : Env} {hp ro : Hp} {B : Base} {nx : Nat} {w : World} (hs : Sat β hp ro B nx w) : Sat β hp ro B nx w.drew :=
  ⟨⟨hs.own, hs.apart, hs.read, hs.old, hs.os, hs.tape, hs.output, hs.size, hs.pin⟩, hs.fresh⟩

/-- A row of no element, which need not lie anywhere. -/
theorem Sat.ghost {β : Env} {hp ro : Hp} {B : Base} {nx : Nat} {w : World} (hs : Sat β hp ro B nx w) (so : SO) (hg : ¬ so.Live) : Sat β ((nx, so) :: hp) ro B (nx + 1) w := by
  have one : ∀ j s, hget j ((nx, so) :: hp) = some s → s.Live → hget j hp = some s := by
    intro j s hj hlive
    simp only [hget] at hj
    cases hb : Nat.beq j nx with
    | true => rw [hb] at hj; simp only [cond_true, Option.some.injEq] at hj; subst hj; exact absurd hlive hg
    | false => rw [hb] at hj; exact hj
  exact ⟨⟨fun j s hj hl => hs.own j s (one j s hj hl) hl, fun j k s t hj hk ls lt hne => hs.apart j k s t (one j s hj ls) (one k t hk lt) ls lt hne, hs.read, hs.old, hs.os, hs.tape, hs.output, hs.size, hs.pin⟩, fun i hi => hs.fresh i (by omega)⟩

def hgetE (i : Nat) (hp ro : Hp) : Option SO :=
  match hget i hp with
  | some s => some s
  | none => hget i ro
/-- The slice that is appended to: its names to be dropped, how many elements, which; whether it must grow. -/
def appBase (sz : Nat) (e : TypeId) (hp ro : Hp) : SV → Option (List Prop × List Nat × Nat × (Nat → Nat → SV) × Bool)
  | .nilsl => some ([], [], 0, fun _ _ => .und, false)
  | .sq i 0 0 sz' n .own => bif Nat.beq sz sz' then match hget i hp with
    | some (.row 0 n' _ sz'' f ty) => bif Nat.beq sz sz'' && Nat.beq ty e && !Nat.beq ty anyTy then some ([n = n'], [i], n, f, false) else none
    | some (.cells us ty) => bif Nat.beq ty e && us.all storable then some ([n * sz ≤ us.length], [i], n, fun i k => us.getD (i * sz + k) .und, false) else none
    | _ => none
    else none
  | .sq i off s sz' n .full => bif Nat.beq sz sz' then match hgetE i hp ro with
    | some so => match elems off s sz n so with
      | some (cs, g) => some (cs, [], n, g, true)
      | none => none
    | none => none
    else none
  | _ => none
def appNew (sz : Nat) (hp ro : Hp) : SV → Option (List Prop × Nat × (Nat → Nat → SV))
  | .nilsl => some ([], 0, fun _ _ => .und)
  | .sl j off s sz' m _ => match hgetE j hp ro with
    | some so => bif Nat.beq sz sz' then match elems off s sz m so with
      | some (cs, g) => some (cs, m, g)
      | none => none
      else none
    | none => none
  | .sq j off s sz' m _ => match hgetE j hp ro with
    | some so => bif Nat.beq sz sz' then match elems off s sz m so with
      | some (cs, g) => some (cs, m, g)
      | none => none
      else none
    | none => none
  | _ => none
/-- What the element's type must tell. -/
def elemIn (P : Program) (t : TypeId) : Option (TypeId × Nat × Nat) :=
  match P.underlying t with
  | some (.slice e) => match P.info? e with
    | some i => match i.zero with
      | some z => bif Nat.beq z.cells.size i.size && Nat.ble 1 i.size then natF i.size fun sz => natF i.bytes fun by_ => some (e, sz, by_) else none
      | none => none
    | none => none
  | _ => none
structure App where
  ks : List Nat
  n : Nat
  m : Nat
  sz : Nat
  f : Nat → Nat → SV
  e : TypeId
def appCs (grow : Bool) (n m by_ : Nat) : List Prop :=
  match grow with
  | true => [0 < m, (n + m) * by_ ≤ 140737488355328, n + m ≤ 9223372036854775807]
  | false => [(n + m) * by_ ≤ 140737488355328, n + m ≤ 9223372036854775807]
def appOp (P : Program) (sl : Slots) (hp ro : Hp) : Op → Option (List Prop × App)
  | .call { callee := .builtin .append, args := as, argTypes := ts } => match as.toList, ts.toList with
    | [s, x], [t, t'] => bif Nat.beq t t' then match elemIn P t with
        | some (e, sz, by_) => match evs sl s, evs sl x with
          | some (c1, s), some (c2, x) => match appBase sz e hp ro s, appNew sz hp ro x with
            | some (c3, ks, n, f, gr), some (c4, m, g) => some (c1 ++ c2 ++ c3 ++ c4 ++ appCs gr n m by_, ⟨ks, n, m, sz, appF f n g, e⟩)
            | _, _ => none
          | _, _ => none
        | none => none
      else none
    | _, _ => none
  | _ => none
end Sx
