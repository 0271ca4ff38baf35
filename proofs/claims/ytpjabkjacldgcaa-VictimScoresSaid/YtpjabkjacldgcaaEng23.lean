/- An append to a slice whose block is known from its first element on. Conditions: as the theorem says. -/
import Derived.Test.YtpjabkjacldgcaaEng22
import Derived.Laws.AppendOwn
namespace Sx
open Go

/-- m elements of a block from the s-th on. -/
def elems (off s sz m : Nat) : SO → Option (List Prop × (Nat → Nat → SV))
  | .cells us _ => bif us.all storable && Nat.beq off 0 then some ([(s + m) * sz ≤ us.length], fun i k => us.getD ((s + i) * sz + k) .und) else none
  | .row off' n _ sz' f _ => bif Nat.beq sz sz' then some ([off = off' ∧ s + m ≤ n, ∀ i k, i < m → k < sz → storable (f (s + i) k) = true], fun i k => f (s + i) k) else none
  | .obj _ => none
  | .lp .. => none

theorem elems_rel {β : Env} {off s sz m : Nat} {so : SO} {cs : List Prop} {g : Nat → Nat → SV} (h : elems off s sz m so = some (cs, g)) (hc : All cs) {ob : Obj} (hr : ORel β so ob) :
    ∃ (c : Array Value) (ty : TypeId) (fz : Nat × Nat), ob = .cells c ty fz ∧ off + (s + m) * sz ≤ c.size ∧ ∀ i k, i < m → k < sz → ∃ u, c[off + (s + i) * sz + k]? = some u ∧ Rel β (g i k) u ∧ storable (g i k) = true := by
  have hmul : ∀ i k, i < m → k < sz → (s + i) * sz + k < (s + m) * sz := by
    intro i k hi hk
    have : (s + i + 1) * sz ≤ (s + m) * sz := Nat.mul_le_mul_right _ (by omega)
    rw [Nat.add_mul (s + i)] at this; omega
  cases so with
  | cells us ty =>
    simp only [elems] at h
    obtain ⟨h1, h2⟩ := bif_some h
    simp only [Prod.mk.injEq] at h2
    obtain ⟨rfl, rfl⟩ := h2
    simp only [Bool.and_eq_true] at h1
    have h2 := beq_nat h1.2; subst h2
    obtain ⟨xs, rfl, hx⟩ := hr
    have hlen := hx.length
    have hle : (s + m) * sz ≤ us.length := hc.head
    refine ⟨_, _, _, rfl, by simp; omega, fun i k hi hk => ?_⟩
    have := hmul i k hi hk
    have hg : us[(s + i) * sz + k]? = some (us.getD ((s + i) * sz + k) .und) := by
      rw [List.getD_eq_getElem?_getD, List.getElem?_eq_getElem (by omega)]; rfl
    obtain ⟨u, hu, hur⟩ := hx.get hg
    refine ⟨u, by simpa using hu, hur, ?_⟩
    exact List.all_eq_true.1 h1.1 _ (List.mem_of_getElem? hg)
  | row off' n cap sz' f ty =>
    simp only [elems] at h
    obtain ⟨h1, h2⟩ := bif_some h
    simp only [Prod.mk.injEq] at h2
    obtain ⟨rfl, rfl⟩ := h2
    have e2 := beq_nat h1; subst e2
    obtain ⟨c, fz, rfl, g1, g2, g3⟩ := hr
    obtain ⟨e1, k1⟩ : off = off' ∧ s + m ≤ n := hc.head
    subst e1
    have k2 : ∀ i k, i < m → k < sz → storable (f (s + i) k) = true := hc _ (List.mem_cons_of_mem _ (List.mem_cons_self ..))
    refine ⟨c, ty, fz, rfl, ?_, fun i k hi hk => ?_⟩
    · have : (s + m) * sz ≤ cap * sz := Nat.mul_le_mul_right _ (by omega)
      omega
    · obtain ⟨u, hu, hur⟩ := g3 (s + i) k (by omega) hk
      exact ⟨u, hu, hur, k2 i k hi hk⟩
  | obj o => simp [elems] at h
  | lp => simp [elems] at h

def appF (f : Nat → Nat → SV) (n : Nat) (g : Nat → Nat → SV) : Nat → Nat → SV := fun i k => bif Nat.blt i n then f i k else g (i - n) k

/-- The row after an append, whatever its block. -/
theorem app_row {β : Env} {f g : Nat → Nat → SV} {n m sz cap : Nat} {e : TypeId} {fz : Nat × Nat} {olds news : List Value} {c : Array Value} {rest : List Value} (hc : c.toList = olds ++ news ++ rest) (hl : olds.length = n * sz) (hm : news.length = m * sz)
    (hcap : n + m ≤ cap) (hsz : cap * sz ≤ c.size) (ho : ∀ i k, i < n → k < sz → ∃ u, olds[i * sz + k]? = some u ∧ Rel β (f i k) u) (hn : ∀ i k, i < m → k < sz → ∃ u, news[i * sz + k]? = some u ∧ Rel β (g i k) u) :
    ORel β (.row 0 (n + m) cap sz (appF f n g) e) (.cells c e fz) := by
  refine ⟨c, fz, rfl, hcap, by omega, fun i k hi hk => ?_⟩
  have hlt : ∀ a b, a < b → k < sz → a * sz + k < b * sz := by
    intro a b hab hk
    have : (a + 1) * sz ≤ b * sz := Nat.mul_le_mul_right _ hab
    rw [Nat.add_mul] at this; omega
  have hget : c[0 + i * sz + k]? = (olds ++ news ++ rest)[i * sz + k]? := by rw [← hc]; simp
  rw [hget]
  by_cases h : i < n
  · have hb : Nat.blt i n = true := by simpa [Nat.blt_eq] using h
    obtain ⟨u, hu, hur⟩ := ho i k h hk
    refine ⟨u, ?_, by simpa [appF, hb] using hur⟩
    rw [List.append_assoc, List.getElem?_append_left (by have := hlt i n h hk; omega)]
    exact hu
  · have hb : Nat.blt i n = false := by
      cases hh : Nat.blt i n with
      | false => rfl
      | true => exact absurd (by simpa [Nat.blt_eq] using hh) h
    obtain ⟨u, hu, hur⟩ := hn (i - n) k (by omega) hk
    refine ⟨u, ?_, by simpa [appF, hb] using hur⟩
    have e1 : i * sz = n * sz + (i - n) * sz := by rw [← Nat.add_mul]; congr 1; omega
    have h2 := hlt (i - n) m (by omega) hk
    rw [List.getElem?_append_left (by rw [List.length_append]; omega), List.getElem?_append_right (by omega)]
    rw [show i * sz + k - olds.length = (i - n) * sz + k by omega]
    exact hu

/-- A known block goes on under a new name, written anew. -/
theorem Sat.moved {β : Env} {hp ro : Hp} {B : Base} {nx : Nat} {w w' : World} (hs : Sat β hp ro B nx w) {i b : Nat} {o : SO} {so : SO} {ob : Obj} (hi : hget i hp = some o) (hb : β i = some b)
    (hor : ∀ β' : Env, β.le β' → ORel β' so ob) (hl : loose ob) (h1 : w'.heap[b]? = some ob) (h2 : ∀ k, k ≠ b → w'.heap[k]? = w.heap[k]?) (h3 : w'.heap.size = w.heap.size)
    (h4 : w'.os = w.os) (h5 : w'.tape = w.tape) (h6 : w'.output = w.output) :
    ∃ β' : Env, β.le β' ∧ β' nx = some b ∧ Sat β' ((nx, so) :: hdrop' [i] hp) ro B (nx + 1) w' := by
  obtain ⟨b', o', k1, k2, k3, k4, k5⟩ := hs.own _ _ hi
  rw [hb] at k1; injection k1 with k1; subst k1
  have hle : β.le (fun j => if j = nx then some b else β j) := by
    intro j c hj
    have : j ≠ nx := by intro e; subst e; rw [hs.fresh j (Nat.le_refl _)] at hj; cases hj
    simp [this, hj]
  have rest : ∀ j s, hget j (hdrop' [i] hp) = some s → hget j hp = some s ∧ j ≠ i ∧ j ≠ nx := by
    intro j s hj
    rw [hdrop_get] at hj
    split at hj
    · cases hj
    · rename_i hn
      simp at hn
      refine ⟨hj, hn, ?_⟩
      intro e; subst e
      obtain ⟨b2, _, g1, _⟩ := hs.own _ _ hj
      rw [hs.fresh j (Nat.le_refl _)] at g1; cases g1
  refine ⟨fun j => if j = nx then some b else β j, hle, by simp, ⟨?_, ?_, ?_, ?_, h4.trans hs.os, h5.trans hs.tape, h6.trans hs.output, by rw [h3]; exact hs.size, fun i b h => hle i b (hs.pin i b h)⟩, ?_⟩
  · intro j s hj
    simp only [hget] at hj
    cases hbq : Nat.beq j nx with
    | true => rw [hbq] at hj; have := beq_nat hbq; subst this; injection hj with hj; subst hj; exact ⟨b, ob, by simp, k2, h1, hor _ hle, hl⟩
    | false =>
      rw [hbq] at hj
      obtain ⟨g1, g2, g3⟩ := rest j s hj
      obtain ⟨b2, ob2, q1, q2, q3, q4, q5⟩ := hs.own j s g1
      refine ⟨b2, ob2, hle _ _ q1, q2, ?_, ORel.mono hle _ _ q4, q5⟩
      rw [h2 b2 ?_]; exact q3
      intro e'; subst e'
      exact hs.apart j i s o g1 hi g2 (q1.trans hb.symm)
  · intro j k s t hj hk hne
    have one : ∀ j s, hget j ((nx, so) :: hdrop' [i] hp) = some s → j = nx ∨ (hget j hp = some s ∧ j ≠ i ∧ j ≠ nx) := by
      intro j s hj
      simp only [hget] at hj
      cases hbq : Nat.beq j nx with
      | true => exact .inl (beq_nat hbq)
      | false => rw [hbq] at hj; exact .inr (rest j s hj)
    rcases one j s hj with rfl | ⟨g1, g2, g3⟩ <;> rcases one k t hk with rfl | ⟨g1', g2', g3'⟩
    · exact absurd rfl hne
    · simp only [if_true, if_neg g3']
      rw [← hb]; exact hs.apart i k o t hi g1' (Ne.symm g2')
    · simp only [if_true, if_neg g3]
      rw [← hb]; exact hs.apart j i s o g1 hi g2
    · simp only [if_neg g3, if_neg g3']; exact hs.apart j k s t g1 g1' hne
  · intro j s hj
    obtain ⟨c, oo, g1, g2, g3⟩ := hs.read j s hj
    exact ⟨c, oo, hle _ _ g1, g2, ORel.mono hle _ _ g3⟩
  · intro k ok hD
    rw [h2 k ?_]; exact hs.old k ok hD
    intro e; subst e; rw [k2] at hD; cases hD
  · intro j hj
    have : j ≠ nx := by omega
    simp only [if_neg this]; exact hs.fresh j (by omega)
theorem Sat.drop {β : Env} {hp ro : Hp} {B : Base} {nx : Nat} {w : World} (hs : Sat β hp ro B nx w) (ks : List Nat) : Sat β (hdrop' ks hp) ro B nx w := by
  have sub : ∀ j s, hget j (hdrop' ks hp) = some s → hget j hp = some s := by
    intro j s hj
    rw [hdrop_get] at hj
    split at hj
    · cases hj
    · exact hj
  exact ⟨⟨fun j s hj => hs.own j s (sub j s hj), fun j k s t hj hk hne => hs.apart j k s t (sub j s hj) (sub k t hk) hne, hs.read, hs.old, hs.os, hs.tape, hs.output, hs.size, hs.pin⟩, hs.fresh⟩
theorem Sat.drew {β : Env} {hp ro : Hp} {B : Base} {nx : Nat} {w : World} (hs : Sat β hp ro B nx w) : Sat β hp ro B nx w.drew :=
  ⟨⟨hs.own, hs.apart, hs.read, hs.old, hs.os, hs.tape, hs.output, hs.size, hs.pin⟩, hs.fresh⟩

/-- The slice that is appended to: its names to be dropped, how many elements, which. -/
def appBase (sz : Nat) (e : TypeId) (hp : Hp) : SV → Option (List Prop × List Nat × Nat × (Nat → Nat → SV))
  | .nilsl => some ([], [], 0, fun _ _ => .und)
  | .sl i 0 0 sz' n cap => match hget i hp with
    | some (.row 0 n' cap' sz'' f ty) => bif Nat.beq sz sz' && Nat.beq sz sz'' && Nat.beq ty e then some ([n = n' ∧ cap = cap'], [i], n, f) else none
    | _ => none
  | _ => none
def hgetE (i : Nat) (hp ro : Hp) : Option SO :=
  match hget i hp with
  | some s => some s
  | none => hget i ro
def appNew (sz : Nat) (hp ro : Hp) : SV → Option (List Prop × Nat × (Nat → Nat → SV))
  | .sl j off s sz' m _ => match hgetE j hp ro with
    | some so => bif Nat.beq sz sz' then match elems off s sz m so with
      | some (cs, g) => some (cs, m, g)
      | none => none
      else none
    | none => none
  | _ => none
/-- What the element's type must tell. -/
def elemIn (P : Program) (t : TypeId) : Option (TypeId × Nat × Nat) :=
  match P.underlying t with
  | some (.slice e) => match P.info? e with
    | some i => match i.zero with
      | some z => bif Nat.beq z.cells.size i.size && Nat.ble 1 i.size then some (e, i.size, i.bytes) else none
      | none => none
    | none => none
  | _ => none
structure App where
  ks : List Nat
  n : Nat
  m : Nat
  sz : Nat
  f : Nat → Nat → SV
  e : TypeId
def appOp (P : Program) (sl : Slots) (hp ro : Hp) : Op → Option (List Prop × App)
  | .call { callee := .builtin .append, args := as, argTypes := ts } => match as.toList, ts.toList with
    | [s, x], [t, t'] => bif Nat.beq t t' then match elemIn P t with
        | some (e, sz, by_) => match evs sl s, evs sl x with
          | some (c1, s), some (c2, x) => match appBase sz e hp s, appNew sz hp ro x with
            | some (c3, ks, n, f), some (c4, m, g) => natF m fun m => some (c1 ++ c2 ++ c3 ++ c4 ++ [0 < m, (n + m) * by_ ≤ 140737488355328, n + m ≤ 9223372036854775807], ⟨ks, n, m, sz, appF f n g, e⟩)
            | _, _ => none
          | _, _ => none
        | none => none
      else none
    | _, _ => none
  | _ => none

theorem appNew_rel {β : Env} {sz : Nat} {hp ro : Hp} {B : Base} {w : World} (hs : Mem β hp ro B w) {x : SV} {v : Value} {cs : List Prop} {m : Nat} {g : Nat → Nat → SV} (h : appNew sz hp ro x = some (cs, m, g)) (hc : All cs) (hx : Rel β x v) (hsz : 0 < sz) :
    ∃ (a : Addr) (c : Nat) (news : List Value), v = .slice (some a) m c ∧ news.length = m * sz ∧ (∀ j u, news[j]? = some u → w.cell? (a.add j) = some u) ∧ (∀ u ∈ news, u.oneCell' = true) ∧
      ∀ i k, i < m → k < sz → ∃ u, news[i * sz + k]? = some u ∧ Rel β (g i k) u := by
  unfold appNew at h
  split at h <;> first | exact (none_ne h).elim | skip
  rename_i j off s sz' m' cap'
  split at h <;> first | exact (none_ne h).elim | skip
  rename_i so hso
  cases hb : Nat.beq sz sz' with
  | false => rw [hb] at h; cases h
  | true =>
  rw [hb] at h; simp only [cond_true] at h
  have := beq_nat hb; subst this
  split at h <;> first | exact (none_ne h).elim | skip
  rename_i cs' g' he
  simp only [Option.some.injEq, Prod.mk.injEq] at h
  obtain ⟨rfl, rfl, rfl⟩ := h
  obtain ⟨b, o, hβ, rfl, hle, ho⟩ := hx
  have hob : ∃ ob, w.heap[b]? = some ob ∧ ORel β so ob := by
    unfold hgetE at hso
    split at hso
    · rename_i s' hs'
      injection hso with hso; subst hso
      obtain ⟨b', ob, g1, g2, g3, g4, g5⟩ := hs.own _ _ hs'
      rw [hβ] at g1; injection g1 with g1; subst g1
      exact ⟨ob, g3, g4⟩
    · obtain ⟨b', ob, g1, g2, g3⟩ := hs.read _ _ hso
      rw [hβ] at g1; injection g1 with g1; subst g1
      exact ⟨ob, hs.old _ _ g2, g3⟩
  obtain ⟨ob, hob, hor⟩ := hob
  obtain ⟨c, ty, fz, rfl, hbd, hel⟩ := elems_rel he hc hor
  refine ⟨⟨b, o, none⟩, cap', (c.toList.drop (off + s * sz)).take (m' * sz), rfl, ?_, ?_, ?_, ?_⟩
  · simp only [List.length_take, List.length_drop, Array.length_toList]
    rw [Nat.add_mul] at hbd; omega
  · intro k u hu
    have hk : k < m' * sz := by
      rcases Nat.lt_or_ge k (m' * sz) with q | q
      · exact q
      · rw [List.getElem?_eq_none (by simp; omega)] at hu; cases hu
    have hm0 : cap' ≠ 0 := by intro e; have : m' = 0 := by omega
                              subst this; simp at hk
    rw [ho hm0, Addr.add_lit, cell_of_row w b _ c ty fz hob]
    rw [List.getElem?_take, if_pos hk, List.getElem?_drop] at hu
    simpa using hu
  · intro u hu
    obtain ⟨k, hk, rfl⟩ := List.mem_iff_getElem.1 hu
    have hk' : k < m' * sz := by simp at hk; omega
    have hi : k / sz < m' := Nat.div_lt_of_lt_mul (by rw [Nat.mul_comm]; exact hk')
    obtain ⟨x, hx1, hx2, hx3⟩ := hel (k / sz) (k % sz) hi (Nat.mod_lt _ hsz)
    have e1 : off + (s + k / sz) * sz + k % sz = off + s * sz + k := by
      rw [Nat.add_mul]
      have := Nat.div_add_mod k sz
      rw [Nat.mul_comm] at this; omega
    rw [e1] at hx1
    have : ((c.toList.drop (off + s * sz)).take (m' * sz))[k]? = some x := by
      rw [List.getElem?_take, if_pos hk', List.getElem?_drop]; simpa using hx1
    rw [List.getElem?_eq_getElem hk] at this
    injection this with this
    rw [this]; exact storable_one hx3 hx2
  · intro i k hi hk
    obtain ⟨u, hu1, hu2, _⟩ := hel i k hi hk
    refine ⟨u, ?_, hu2⟩
    have hlt : i * sz + k < m' * sz := by
      have : (i + 1) * sz ≤ m' * sz := Nat.mul_le_mul_right _ hi
      rw [Nat.add_mul] at this; omega
    rw [List.getElem?_take, if_pos hlt, List.getElem?_drop]
    rw [← hu1, Nat.add_mul]
    simp; congr 1; omega

theorem app_run {P : Program} {β : Env} {hp ro : Hp} {B : Base} {nx : Nat} {w : World} (hs : Sat β hp ro B nx w) (hB : B.ok) {sl : Slots} {ρ : Operand → Value} (hr : Rho β sl ρ) {o : Oper} {cs : List Prop} {q : App}
    (h : appOp P sl hp ro o.op = some (cs, q)) (hc : All cs) :
    ∃ (cap : Nat) (β' : Env) (w' : World) (v : Value), q.n + q.m ≤ cap ∧ β.le β' ∧ Sat β' ((nx, .row 0 (q.n + q.m) cap q.sz q.f q.e) :: hdrop' q.ks hp) ro B (nx + 1) w' ∧ Rel β' (.sl nx 0 0 q.sz (q.n + q.m) cap) v ∧
      (execOp ρ o).run P w = .ok (.value v) w' := by
  generalize hop : o.op = op at h
  unfold appOp at h
  split at h <;> first | exact (none_ne h).elim | skip
  rename_i as ts
  split at h <;> first | exact (none_ne h).elim | skip
  rename_i s x t t' eas ets
  have eas : as = #[s, x] := Array.toList_inj.1 (by simpa using eas)
  have ets : ts = #[t, t'] := Array.toList_inj.1 (by simpa using ets)
  subst eas ets
  cases hb : Nat.beq t t' with
  | false => rw [hb] at h; cases h
  | true =>
  rw [hb] at h; simp only [cond_true] at h
  have := beq_nat hb; subst this
  split at h <;> first | exact (none_ne h).elim | skip
  rename_i e sz by_ hel
  split at h <;> first | exact (none_ne h).elim | skip
  rename_i c1 sv c2 xv h1 h2
  split at h <;> first | exact (none_ne h).elim | skip
  rename_i c3 ks n f c4 m g h3 h4
  rw [natF_eq] at h
  simp only [Option.some.injEq, Prod.mk.injEq] at h
  obtain ⟨rfl, rfl⟩ := h
  -- the type
  unfold elemIn at hel
  split at hel <;> first | exact (none_ne hel).elim | skip
  rename_i e' ht
  split at hel <;> first | exact (none_ne hel).elim | skip
  rename_i inf hi
  split at hel <;> first | exact (none_ne hel).elim | skip
  rename_i z hz
  obtain ⟨hzs, hel⟩ := bif_some hel
  simp only [Prod.mk.injEq] at hel
  obtain ⟨rfl, rfl, rfl⟩ := hel
  simp only [Bool.and_eq_true] at hzs
  have hsz : 0 < inf.size := ble_nat hzs.2
  have hzs := beq_nat hzs.1
  have hc' : ∀ p, p ∈ c1 ∨ p ∈ c2 ∨ p ∈ c3 ∨ p ∈ c4 ∨ p = (0 < m) ∨ p = ((n + m) * inf.bytes ≤ 140737488355328) ∨ p = (n + m ≤ 9223372036854775807) → p := fun p hp => hc p (by rcases hp with h | h | h | h | h | h | h <;> simp [h])
  have hm0 : 0 < m := hc' _ (by simp)
  have hby : (n + m) * inf.bytes ≤ 140737488355328 := hc' _ (by simp)
  have h63 : n + m ≤ 9223372036854775807 := hc' _ (by simp)
  have hsv := evs_rel hr h1 (fun p hp => hc' p (.inl hp))
  have hxv := evs_rel hr h2 (fun p hp => hc' p (.inr (.inl hp)))
  obtain ⟨a, c, news, hxe, hnl, hncell, hn1, hng⟩ := appNew_rel hs.toMem h4 (fun p hp => hc' p (.inr (.inr (.inr (.inl hp))))) hxv hsz
  have hrun : ∀ {v w'}, (Builtin.append_ #[t, t] o.type #[ρ s, ρ x]).run P w = .ok v w' → (execOp ρ o).run P w = .ok (.value v) w' := by
    intro v w' hh
    simp only [execOp, hop, resolve, invoke, builtin, Sem.run_bind, Sem.run_pure, Result.andThen_ok, List.map_toArray, List.map_cons, List.map_nil, hh]
  -- a new block
  have grown : ∀ (old : Nat) (olds : List Value) (ks : List Nat), olds.length = n * inf.size → (∀ i k, i < n → k < inf.size → ∃ u, olds[i * inf.size + k]? = some u ∧ Rel β (f i k) u) →
      ∃ β' : Env, β.le β' ∧ Sat β' ((nx, .row 0 (n + m) (grownCap w (n + m) old e') inf.size (appF f n g) e') :: hdrop' ks hp) ro B (nx + 1)
        (w.drew.alloc (.cells (olds.toArray ++ news.toArray ++ Builtin.zeroCells z.cells (grownCap w (n + m) old e' - (n + m))) e')) ∧ Rel β' (.sl nx 0 0 inf.size (n + m) (grownCap w (n + m) old e')) (.slice (some ⟨w.heap.size, 0, none⟩) (n + m) (grownCap w (n + m) old e')) := by
    intro old olds ks hol hor
    have hge := grownCap_ge w (n + m) old e'
    have hs2 := (hs.drew).drop ks
    obtain ⟨β', g1, g2, g3⟩ := hs2.new (.row 0 (n + m) (grownCap w (n + m) old e') inf.size (appF f n g) e') (.cells (olds.toArray ++ news.toArray ++ Builtin.zeroCells z.cells (grownCap w (n + m) old e' - (n + m))) e') hB (fun β' hle _ => by
      refine app_row (olds := olds) (news := news) (rest := (Builtin.zeroCells z.cells (grownCap w (n + m) old e' - (n + m))).toList) (by simp) hol hnl hge ?_ (fun i k hi hk => ?_) (fun i k hi hk => ?_)
      · simp only [Array.size_append, List.size_toArray, size_zeroCells, hzs, hol, hnl, ← Nat.add_mul]
        exact Nat.le_of_eq (by congr 1; omega)
      · obtain ⟨u, h1, h2⟩ := hor i k hi hk; exact ⟨u, h1, Rel.mono hle _ _ h2⟩
      · obtain ⟨u, h1, h2⟩ := hng i k hi hk; exact ⟨u, h1, Rel.mono hle _ _ h2⟩) rfl
    exact ⟨β', g1, g3, w.heap.size, 0, g2, rfl, hge, fun _ => by simp⟩
  unfold appBase at h3
  split at h3 <;> first | exact (none_ne h3).elim | skip
  · -- to nil
    simp only [Option.some.injEq, Prod.mk.injEq] at h3
    obtain ⟨rfl, rfl, rfl, rfl⟩ := h3
    have hr1 := run_append_nil (P := P) w t o.type e' inf z ht hi hz a m c news hnl hncell hm0 (by omega) (by simp only [Nat.zero_add] at hby; omega)
    obtain ⟨β', g1, g2, g3⟩ := grown 0 [] [] (by simp) (fun i k hi => by omega)
    simp only [Nat.zero_add] at g2 g3
    refine ⟨grownCap w m 0 e', β', _, _, ?_, g1, ?_, ?_, hrun (by rw [hxe]; simp only [Rel] at hsv; rw [hsv]; exact hr1)⟩
    · simpa using grownCap_ge w m 0 e'
    · simpa using g2
    · simpa using g3
  · rename_i i sz' n' cap
    split at h3 <;> first | exact (none_ne h3).elim | skip
    rename_i n'' cap' sz'' f' ty hget_
    obtain ⟨hq, h3⟩ := bif_some h3
    simp only [Prod.mk.injEq] at h3
    obtain ⟨rfl, rfl, rfl, rfl⟩ := h3
    simp only [Bool.and_eq_true] at hq
    have q1 := beq_nat hq.1.1; have q2 := beq_nat hq.1.2; have q3 := beq_nat hq.2
    subst q1 q2 q3
    obtain ⟨rfl, rfl⟩ : n' = n'' ∧ cap = cap' := hc' _ (by simp)
    obtain ⟨blk, of, hβ, hsve, hnc, hof⟩ := hsv
    obtain ⟨b2, ob, k1, k2, k3, k4, k5⟩ := hs.own _ _ hget_
    rw [hβ] at k1; injection k1 with k1; subst k1
    obtain ⟨cur, fz, rfl, _, hcs, hcf⟩ := k4
    simp only [loose] at k5; subst k5
    have hold : ∀ i k, i < n' → k < inf.size → ∃ u, (cur.toList.take (n' * inf.size))[i * inf.size + k]? = some u ∧ Rel β (f' i k) u := by
      intro i k hi hk
      obtain ⟨u, hu, hur⟩ := hcf i k hi hk
      refine ⟨u, ?_, hur⟩
      have : (i + 1) * inf.size ≤ n' * inf.size := Nat.mul_le_mul_right _ hi
      rw [Nat.add_mul] at this
      rw [List.getElem?_take, if_pos (by omega)]
      simpa using hu
    have hncs : n' * inf.size ≤ cur.size := by
      have : n' * inf.size ≤ cap * inf.size := Nat.mul_le_mul_right _ hnc
      omega
    have holen : (cur.toList.take (n' * inf.size)).length = n' * inf.size := by simp; omega
    by_cases hroom : n' + m ≤ cap
    · have hcap0 : cap ≠ 0 := by omega
      have hof := hof hcap0
      simp only [Nat.zero_mul, Nat.add_zero] at hof
      subst hof
      have hfit : n' * inf.size + news.length ≤ cur.size := by
        rw [hnl, ← Nat.add_mul]
        have : (n' + m) * inf.size ≤ cap * inf.size := Nat.mul_le_mul_right _ hroom
        omega
      have hr1 := run_append_room (P := P) w t o.type ty inf ht hi blk n' cap cur k3 a m c news hnl hncell hn1 hroom hfit
      obtain ⟨β', g1, g2, g3⟩ := hs.moved (w' := w.setRow blk (cur.toList.take (n' * inf.size) ++ news ++ cur.toList.drop (n' * inf.size + news.length)).toArray) (so := .row 0 (n' + m) cap inf.size (appF f' n' g) ty) hget_ hβ (fun β' hle =>
          app_row (β := β') (olds := cur.toList.take (n' * inf.size)) (news := news) (rest := cur.toList.drop (n' * inf.size + news.length)) (e := ty) (fz := (0, 0)) (by simp) holen hnl hroom (by
            simp only [List.size_toArray, List.length_append, List.length_take, List.length_drop, Array.length_toList]; omega)
            (fun i k hi hk => let ⟨u, h1, h2⟩ := hold i k hi hk; ⟨u, h1, Rel.mono hle _ _ h2⟩) (fun i k hi hk => let ⟨u, h1, h2⟩ := hng i k hi hk; ⟨u, h1, Rel.mono hle _ _ h2⟩)) rfl
        (setRow_heap w blk cur _ ty (0, 0) k3) (fun k hk => setRow_other w blk k _ hk) (by simp [World.setRow]) rfl rfl rfl
      exact ⟨cap, β', _, _, hroom, g1, g3, ⟨blk, 0, g2, rfl, hroom, fun _ => by simp⟩, hrun (by rw [hxe, hsve]; exact hr1)⟩
    · have hr1 := run_append_grow (P := P) w t o.type ty inf z ht hi hz ⟨blk, of, none⟩ n' cap (cur.toList.take (n' * inf.size)) holen (fun j u hu => by
          have hj : j < n' * inf.size := by
            rcases Nat.lt_or_ge j (n' * inf.size) with q | q
            · exact q
            · rw [List.getElem?_eq_none (by omega)] at hu; cases hu
          have hcap0 : cap ≠ 0 := by intro e; have : n' = 0 := by omega
                                     subst this; simp at hj
          have hof := hof hcap0
          simp only [Nat.zero_mul, Nat.add_zero] at hof
          subst hof
          rw [Addr.add_lit, cell_of_row w blk _ cur ty (0, 0) k3]
          rw [List.getElem?_take, if_pos hj] at hu
          simpa using hu) a m c news hnl hncell (by omega) (by omega) (growslice_fits (by omega) hby)
      obtain ⟨β', g1, g2, g3⟩ := grown cap (cur.toList.take (n' * inf.size)) [i] holen hold
      exact ⟨_, β', _, _, grownCap_ge w (n' + m) cap ty, g1, g2, g3, hrun (by rw [hxe, hsve]; exact hr1)⟩

def appPost (nx cap : Nat) (q : App) (hp : Hp) : Option Hp := hdrop q.ks hp fun r => some ((nx, .row 0 (q.n + q.m) cap q.sz q.f q.e) :: r)

section
variable {P : Program} {ro : Hp} {B : Base} {f : FuncId} {R : Ending → World → Prop}
/-- An append, whatever room it finds. -/
theorem run_append (hB : B.ok) {fn : FId} {n : Nat} {sl : Slots} {ops : Array Oper} {i : Nat} {o : Oper} {cur : List Oper} {tl : Option (List Nat)} {k : List SI} {rest : List SFr} {hp : Hp} {nx : Nat} {cs : List Prop} {q : App}
    (hgd : guardIn ops sl o = some .run) (ha : appOp P sl hp ro o.op = some (cs, q)) (hc : conj cs)
    (h : ∀ cap, q.n + q.m ≤ cap → ∃ sl' hp' nx', put o.dst (.sl nx 0 0 q.sz (q.n + q.m) cap) n sl = some sl' ∧ appPost nx cap q hp = some hp' ∧ natF (nx + 1) some = some nx' ∧
      Run P ro B f R ⟨⟨fn, n, sl', .reg ops (i + 1) cur tl :: k⟩, rest, hp', nx'⟩) :
    Run P ro B f R ⟨⟨fn, n, sl, .reg ops i (o :: cur) tl :: k⟩, rest, hp, nx⟩ := by
  refine run_opz (G := fun cap => q.n + q.m ≤ cap) (sz := fun cap => .sl nx 0 0 q.sz (q.n + q.m) cap) (hpz := fun cap => (nx, .row 0 (q.n + q.m) cap q.sz q.f q.e) :: hdrop' q.ks hp) (nxz := fun _ => nx + 1) ?_ ?_
  · intro cap hcap
    obtain ⟨sl', hp', nx', e1, e2, e3, hr⟩ := h cap hcap
    rw [appPost, hdrop_eq] at e2
    rw [natF_eq] at e3
    injection e2 with e2; injection e3 with e3
    subst e2 e3
    exact ⟨sl', e1, hr⟩
  · intro β w tmps b k' fs r hn hsl hlt' hs hk ho
    have hw := guard_rel hgd hn hsl hlt'
    have hrho : Rho β sl (Act.eval ⟨tmps, dfr fn.dfs⟩) := ⟨hsl, fun _ => rfl, fun _ => rfl⟩
    obtain ⟨cap, β', w', v, g1, g2, g3, g4, g5⟩ := app_run hs hB hrho ha (all_conj hc)
    exact ⟨cap, β', w', v, g1, g2, g3, g4, .one (op_value ho hw g5)⟩
end
end Sx
