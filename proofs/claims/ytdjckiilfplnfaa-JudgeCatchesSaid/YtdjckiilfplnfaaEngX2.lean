/- The symbolic machine, part 2: what its steps give, proved against the model. Conditions: as each theorem says. -/
import Derived.Test.YtdjckiilfplnfaaEngX1
import Derived.Laws.MakeOwn
set_option linter.unusedSimpArgs false
set_option linter.unusedVariables false
section
namespace Sx
open Go

theorem elems_live {off s sz m : Nat} {so : SO} {cs : List Prop} {g : Nat → Nat → SV} (h : elems off s sz m so = some (cs, g)) (hc : All cs) (hm : 0 < m) : so.Live := by
  cases so with
  | row off' n cap sz' f ty =>
    simp only [elems] at h
    obtain ⟨h1, h2⟩ := bif_some h
    simp only [Prod.mk.injEq] at h2
    obtain ⟨rfl, rfl⟩ := h2
    obtain ⟨_, k1⟩ : off = off' ∧ s + m ≤ n := hc.head
    show 0 < n
    omega
  | cells => trivial
  | obj => trivial
  | lp => trivial
  | map => trivial
  | mape => trivial
  | mit => trivial
  | prow => trivial
  | arr => trivial

theorem elems_cells {β : Env} {off s sz m j b : Nat} {hp ro : Hp} {B : Base} {w : World} (hs : Mem β hp ro B w) {so : SO} (hso : hgetE j hp ro = some so) (hβ : β j = some b) {cs : List Prop} {g : Nat → Nat → SV}
    (he : elems off s sz m so = some (cs, g)) (hc : All cs) (hsz : 0 < sz) (hm : 0 < m) :
    ∃ news : List Value, news.length = m * sz ∧ (∀ k u, news[k]? = some u → w.cell? ((⟨b, off + s * sz, none⟩ : Addr).add k) = some u) ∧ (∀ u ∈ news, u.oneCell' = true) ∧
      ∀ i k, i < m → k < sz → ∃ u, news[i * sz + k]? = some u ∧ Rel β (g i k) u := by
  have hlive := elems_live he hc hm
  have hob : ∃ ob, w.heap[b]? = some ob ∧ ORel β so ob := by
    unfold hgetE at hso
    split at hso
    · rename_i s' hs'
      injection hso with hso; subst hso
      obtain ⟨b', ob, g1, g2, g3, g4, g5⟩ := hs.own _ _ hs' hlive
      rw [hβ] at g1; injection g1 with g1; subst g1
      exact ⟨ob, g3, g4⟩
    · obtain ⟨b', ob, g1, g2, g3⟩ := hs.read _ _ hso hlive
      rw [hβ] at g1; injection g1 with g1; subst g1
      exact ⟨ob, hs.old _ _ g2, g3⟩
  obtain ⟨ob, hob, hor⟩ := hob
  obtain ⟨c, ty, fz, rfl, hbd, hel⟩ := elems_rel he hc hor
  refine ⟨(c.toList.drop (off + s * sz)).take (m * sz), ?_, ?_, ?_, ?_⟩
  · simp only [List.length_take, List.length_drop, Array.length_toList]
    rw [Nat.add_mul] at hbd; omega
  · intro k u hu
    have hk : k < m * sz := by
      rcases Nat.lt_or_ge k (m * sz) with q | q
      · exact q
      · rw [List.getElem?_eq_none (by simp; omega)] at hu; cases hu
    rw [Addr.add_lit, cell_of_row w b _ c ty fz hob]
    rw [List.getElem?_take, if_pos hk, List.getElem?_drop] at hu
    simpa using hu
  · intro u hu
    obtain ⟨k, hk, rfl⟩ := List.mem_iff_getElem.1 hu
    have hk' : k < m * sz := by simp at hk; omega
    have hi : k / sz < m := Nat.div_lt_of_lt_mul (by rw [Nat.mul_comm]; exact hk')
    obtain ⟨x, hx1, hx2, hx3⟩ := hel (k / sz) (k % sz) hi (Nat.mod_lt _ hsz)
    have e1 : off + (s + k / sz) * sz + k % sz = off + s * sz + k := by
      rw [Nat.add_mul]
      have := Nat.div_add_mod k sz
      rw [Nat.mul_comm] at this; omega
    rw [e1] at hx1
    have : ((c.toList.drop (off + s * sz)).take (m * sz))[k]? = some x := by
      rw [List.getElem?_take, if_pos hk', List.getElem?_drop]; simpa using hx1
    rw [List.getElem?_eq_getElem hk] at this
    injection this with this
    rw [this]; exact storable_one hx3 hx2
  · intro i k hi hk
    obtain ⟨u, hu1, hu2, _⟩ := hel i k hi hk
    refine ⟨u, ?_, hu2⟩
    have hlt : i * sz + k < m * sz := by
      have : (i + 1) * sz ≤ m * sz := Nat.mul_le_mul_right _ hi
      rw [Nat.add_mul] at this; omega
    rw [List.getElem?_take, if_pos hlt, List.getElem?_drop]
    rw [← hu1, Nat.add_mul]
    simp; congr 1; omega

/-- m elements that are appended. -/
structure News (β : Env) (w : World) (sz m : Nat) (g : Nat → Nat → SV) (v : Value) (news : List Value) : Prop where
  v : ∃ ba c, v = .slice ba m c ∧ (0 < m → ∃ a, ba = some a ∧ ∀ j u, news[j]? = some u → w.cell? (a.add j) = some u)
  len : news.length = m * sz
  one : ∀ u ∈ news, u.oneCell' = true
  rel : ∀ i k, i < m → k < sz → ∃ u, news[i * sz + k]? = some u ∧ Rel β (g i k) u

theorem News.none {β : Env} {w : World} {sz : Nat} {g : Nat → Nat → SV} (ba : Option Addr) (c : Nat) : News β w sz 0 g (.slice ba 0 c) [] :=
  ⟨⟨ba, c, rfl, fun h => by omega⟩, by simp, fun _ h => (by cases h), fun i k hi => by omega⟩

theorem appNew_rel {β : Env} {sz : Nat} {hp ro : Hp} {B : Base} {w : World} (hs : Mem β hp ro B w) {x : SV} {v : Value} {cs : List Prop} {m : Nat} {g : Nat → Nat → SV} (h : appNew sz hp ro x = some (cs, m, g)) (hc : All cs) (hx : Rel β x v) (hsz : 0 < sz) :
    ∃ news, News β w sz m g v news := by
  unfold appNew at h
  split at h <;> first | exact (none_ne h).elim | skip
  · simp only [Option.some.injEq, Prod.mk.injEq] at h
    obtain ⟨rfl, rfl, rfl⟩ := h
    simp only [Rel] at hx; subst hx
    exact ⟨[], News.none _ _⟩
  · rename_i j off s sz' m' cap'
    split at h <;> first | exact (none_ne h).elim | skip
    rename_i so hso
    cases hb : Nat.beq sz sz' with
    | false => rw [hb] at h; cases h
    | true =>
    rw [hb] at h; simp only [cond_true] at h
    have := beq_nat hb; subst this
    split at h <;> first | exact (none_ne h).elim | skip
    rename_i cs' g' he
    simp only [Option.some.injEq, Prod.mk.injEq] at h
    obtain ⟨rfl, rfl, rfl⟩ := h
    obtain ⟨b, o, hβ, room, rfl, hle, hcr, ho⟩ := hx
    by_cases hm : 0 < m'
    · obtain ⟨news, n1, n2, n3, n4⟩ := elems_cells hs hso hβ he hc hsz hm
      rw [← ho (by omega)] at n2
      exact ⟨news, ⟨_, _, rfl, fun _ => ⟨_, rfl, n2⟩⟩, n1, n3, n4⟩
    · have : m' = 0 := by omega
      subst this
      exact ⟨[], News.none _ _⟩
  · rename_i j off s sz' m' ap
    split at h <;> first | exact (none_ne h).elim | skip
    rename_i so hso
    cases hb : Nat.beq sz sz' with
    | false => rw [hb] at h; cases h
    | true =>
    rw [hb] at h; simp only [cond_true] at h
    have := beq_nat hb; subst this
    split at h <;> first | exact (none_ne h).elim | skip
    rename_i cs' g' he
    simp only [Option.some.injEq, Prod.mk.injEq] at h
    obtain ⟨rfl, rfl, rfl⟩ := h
    obtain ⟨base, room, rfl, h1, h2, h3, h4⟩ := hx
    by_cases hm : 0 < m'
    · obtain ⟨h5, b, hβ, rfl, _⟩ := h4 hm
      obtain ⟨news, n1, n2, n3, n4⟩ := elems_cells hs hso hβ he hc hsz hm
      exact ⟨news, ⟨_, _, rfl, fun _ => ⟨_, rfl, n2⟩⟩, n1, n3, n4⟩
    · have : m' = 0 := by omega
      subst this
      exact ⟨[], News.none _ _⟩

theorem News.src {P : Program} {β : Env} {w : World} {sz m : Nat} {g : Nat → Nat → SV} {v : Value} {news : List Value} (h : News β w sz m g v news) {t e : TypeId} (ht : P.underlying t = some (.slice e)) : Src P sz t v m news w := by
  obtain ⟨ba, c, rfl, h1⟩ := h.v
  by_cases hm : 0 < m
  · obtain ⟨a, rfl, h2⟩ := h1 hm
    exact Src.ofSlice w ht a m c news h.len h2 h.one
  · have : m = 0 := by omega
    subst this
    have hl := h.len
    simp only [Nat.zero_mul, List.length_eq_zero_iff] at hl; subst hl
    cases ba with
    | none => exact Src.ofNil w ht c
    | some a => exact Src.ofSlice w ht a 0 c [] (by simp) (fun j u hu => by simp at hu) (fun u hu => by cases hu)
/-- What an append of m elements does. -/
structure Adds (P : Program) (t t' e : TypeId) (i : TypeInfo) (z : Value) (w : World) (x : Value) (m : Nat) (news : List Value) : Prop where
  nothing : m = 0 → ∀ (ty : TypeId) (base : Option Addr) (sLen sCap : Nat), sLen ≤ sCap → (Builtin.append_ #[t, t'] ty #[.slice base sLen sCap, x]).run P w = .ok (.slice base sLen sCap) w
  room : 0 < m → ∀ (ty : TypeId) (g sLen sCap : Nat) (cur : Array Value), w.heap[g]? = some (.cells cur e (0, 0)) → sLen + m ≤ sCap → sLen * i.size + news.length ≤ cur.size →
    (Builtin.append_ #[t, t'] ty #[.slice (some ⟨g, 0, none⟩) sLen sCap, x]).run P w =
      .ok (.slice (some ⟨g, 0, none⟩) (sLen + m) sCap) (w.setRow g (cur.toList.take (sLen * i.size) ++ news ++ cur.toList.drop (sLen * i.size + news.length)).toArray)
  grow : 0 < m → ∀ (ty : TypeId) (base : Option Addr) (sLen sCap : Nat) (olds : List Value), (Builtin.firstCells i.size sLen (.slice base sLen sCap)).run P w.drew = .ok olds.toArray w.drew →
    sCap < sLen + m → ((sLen + m : Nat) : Int) ≤ 9223372036854775807 → Builtin.nextslicecap (sLen + m) sCap * i.bytes ≤ 281474976710656 →
    (Builtin.append_ #[t, t'] ty #[.slice base sLen sCap, x]).run P w =
      .ok (.slice (some ⟨w.heap.size, 0, none⟩) (sLen + m) (grownCap w (sLen + m) sCap e))
        (w.drew.alloc (.cells ((olds ++ news).toArray ++ Builtin.zeroCells z.cells (grownCap w (sLen + m) sCap e - (sLen + m))) e))
theorem News.adds {P : Program} {β : Env} {w : World} {m : Nat} {g : Nat → Nat → SV} {v : Value} {news : List Value} {i : TypeInfo} (h : News β w i.size m g v news) {t e : TypeId} (ht : P.underlying t = some (.slice e)) (hi : P.info? e = some i) {z : Value} (hz : i.zero = some z) :
    Adds P t t e i z w v m news := by
  have hsrc := h.src (P := P) ht
  refine ⟨fun hm ty base sLen sCap hle => ?_, fun hm ty g sLen sCap cur hg hr hf => ?_, fun hm ty base sLen sCap olds ho hg h63 hfit => ?_⟩
  · subst hm
    have hl := h.len
    simp only [Nat.zero_mul, List.length_eq_zero_iff] at hl; subst hl
    exact run_append_nothing w t t ty e i ht hi base sLen sCap hle v hsrc
  · obtain ⟨ba2, c2, rfl, hx2⟩ := h.v
    obtain ⟨a, rfl, hcell⟩ := hx2 hm
    exact run_append_room (P := P) w t ty e i ht hi g sLen sCap cur hg a m c2 news h.len hcell h.one hr hf
  · exact run_append_grow_src (P := P) w t t ty e i z ht hi hz base sLen sCap olds ho v m news hsrc hg h63 hfit
theorem zeroCells_one (v : Value) (h1 : v.cells = #[v]) (m : Nat) : (Builtin.zeroCells v.cells m).toList = List.replicate m v := by
  rw [h1]
  refine List.ext_getElem (by simp [Builtin.zeroCells]) fun i q1 q2 => ?_
  simp [Builtin.zeroCells, Nat.mod_one]
theorem adds_zeros {P : Program} {w : World} {t t' e : TypeId} {i : TypeInfo} {z : Value} {kn kq : IntKind} (ht : P.underlying t = some (.slice e)) (htn : P.underlying t' = some (.int kn)) (hi : P.info? e = some i) (hz : i.zero = some z) (hs : 0 < i.size) (h1 : z.oneCell' = true) (hc : z.cells = #[z]) (hs1 : i.size = 1)
    (m : Nat) (h63 : (m : Int) ≤ 9223372036854775807) (h48 : m * i.bytes ≤ 281474976710656) (hm0 : 0 < m) : Adds P t t' e i z w (.int kq m) m (List.replicate m z) := by
  have hzc := zeroCells_one z hc m
  have hk : m ≠ 0 := by omega
  have hw : IntKind.i64.wrap (m : Int) = m := by rw [IntKind.wrap_i64]; omega
  have h48i : ¬ (281474976710656 < (m : Int) * (i.bytes : Int)) := by
    rw [← Int.natCast_mul]
    omega
  have hneg : ¬ ((m : Int) < 0) := by omega
  refine ⟨fun hm => absurd hm hk, fun hm ty g sLen sCap cur hg hr hf => ?_, fun hm ty base sLen sCap olds ho hg h63' hfit => ?_⟩
  · have hst := run_storeCells_at P g (sLen * i.size) e (List.replicate m z) 0 cur w hg (by simpa using hf) (fun u hu => by rw [(List.mem_replicate.1 hu).2]; exact h1)
    simp only [Nat.add_zero] at hst
    have hns : ¬ (m * i.size = 0) := Nat.mul_ne_zero hk (by omega)
    simp [Builtin.append_, run_underlying ht, run_underlying htn, Go.sizeOf, typeInfo, zeroValue, hi, hz, asInt, asIntOf, hw, hneg, hns, h48i, hr, Addr.add_lit, hzc, hst]
  · have hn : ¬ (sLen + m ≤ sCap) := by omega
    have g1 : ¬ (9223372036854775807 < ((sLen : Int) + (m : Int))) := by omega
    have g2 : ¬ (281474976710656 < Builtin.nextslicecap (sLen + m) sCap * i.bytes) := by omega
    have hns : ¬ (m * i.size = 0) := Nat.mul_ne_zero hk (by omega)
    simp [Builtin.append_, run_underlying ht, run_underlying htn, Go.sizeOf, typeInfo, zeroValue, hi, hz, asInt, asIntOf, hw, hn, hneg, hns, g1, g2, h48i, Question.forced, ho, newRow, grownCap]
    congr 2
    apply Array.ext'
    simp [hzc]
theorem appAny_rel {P : Program} {β : Env} {t t' e : TypeId} {i : TypeInfo} {z : Value} {hp ro : Hp} {B : Base} {w : World} (hs : Mem β hp ro B w) (ht : P.underlying t = some (.slice e)) (hi : P.info? e = some i) (hz : i.zero = some z) {x : SV} {v : Value} {cs : List Prop} {m : Nat} {g : Nat → Nat → SV}
    (h : appAny P t t' i.size e hp ro x = some (cs, m, g)) (hc : All cs) (hx : Rel β x v) (hsz : 0 < i.size) (h63 : (m : Int) ≤ 9223372036854775807) (h48 : m * i.bytes ≤ 281474976710656) :
    ∃ news, news.length = m * i.size ∧ (∀ j k, j < m → k < i.size → ∃ u, news[j * i.size + k]? = some u ∧ Rel β (g j k) u) ∧ Adds P t t' e i z w v m news := by
  unfold appAny at h
  split at h
  · rename_i hb
    have := beq_nat hb; subst this
    obtain ⟨news, hN⟩ := appNew_rel hs h hc hx hsz
    exact ⟨news, hN.len, hN.rel, hN.adds ht hi hz⟩
  · unfold appZero at h
    split at h <;> first | exact (none_ne h).elim | skip
    rename_i kn i' kq vv htn hi2
    rw [hi] at hi2; injection hi2 with hi2; subst hi2
    split at h <;> first | exact (none_ne h).elim | skip
    rename_i k c hzz
    rw [hz] at hzz; injection hzz with hzz; subst hzz
    simp only [natF_eq] at h
    obtain ⟨h1, h⟩ := bif_some h
    have h1 := beq_nat h1
    simp only [Prod.mk.injEq] at h
    obtain ⟨rfl, rfl, rfl⟩ := h
    have h0 : 0 < vv := hc.head
    have hx : v = .int kq vv := hx
    have e1 : (vv.toNat : Int) = vv := by omega
    rw [← e1] at hx
    subst hx
    refine ⟨List.replicate vv.toNat (.int k c), by simp [h1], fun j q hj hq => ⟨.int k c, ?_, rfl⟩, adds_zeros ht htn hi hz hsz rfl rfl h1 vv.toNat h63 h48 (by omega)⟩
    rw [h1] at hq ⊢
    rw [List.getElem?_replicate, if_pos (by omega)]

/-- The slice that is appended to. -/
structure Olds (P : Program) (β : Env) (hp : Hp) (w : World) (e : TypeId) (sz n m : Nat) (f : Nat → Nat → SV) (ks : List Nat) (v : Value) (olds : List Value) : Prop where
  len : olds.length = n * sz
  rel : ∀ i k, i < n → k < sz → ∃ u, olds[i * sz + k]? = some u ∧ Rel β (f i k) u
  v : ∃ ba room, v = .slice ba n room ∧ n ≤ room ∧ (Builtin.firstCells sz n v).run P w.drew = .ok olds.toArray w.drew ∧ (n = 0 → room = 0) ∧
    ((ks = [] ∧ room = n ∧ (m = 0 → n = 0)) ∨ (∃ i o, ks = [i] ∧ hget i hp = some o ∧ room ≤ 9223372036854775807 ∧ (0 < n → o.Live ∧ ∃ b cur, β i = some b ∧ ba = some ⟨b, 0, none⟩ ∧ w.heap[b]? = some (.cells cur e (0, 0)) ∧ room * sz ≤ β.room i ∧ room * sz ≤ cur.size ∧ olds = cur.toList.take (n * sz))))

theorem olds_take {P : Program} {w : World} {b : Nat} {cur : Array Value} {e : TypeId} {sz n room : Nat} (hb : w.heap[b]? = some (.cells cur e (0, 0))) (hn : n * sz ≤ cur.size) :
    (Builtin.firstCells sz n (.slice (some ⟨b, 0, none⟩) n room)).run P w.drew = .ok (cur.toList.take (n * sz)).toArray w.drew := by
  refine run_firstCells_some w.drew sz n ⟨b, 0, none⟩ n room _ (by simp; omega) (fun j u hu => ?_)
  have hj : j < n * sz := by
    rcases Nat.lt_or_ge j (n * sz) with q | q
    · exact q
    · rw [List.getElem?_eq_none (by simp; omega)] at hu; cases hu
  rw [Addr.add_lit, cell_of_row w.drew b _ cur e (0, 0) hb]
  rw [List.getElem?_take, if_pos hj] at hu
  simpa using hu

theorem appBase_rel {P : Program} {β : Env} {sz m by_ : Nat} {e : TypeId} {hp ro : Hp} {B : Base} {w : World} (hs : Mem β hp ro B w) {x : SV} {v : Value} {cs : List Prop} {ks : List Nat} {n : Nat} {f : Nat → Nat → SV} {gr : Bool}
    (h : appBase sz e hp ro x = some (cs, ks, n, f, gr)) (hc : All cs) (hg : All (appCs gr n m by_)) (hx : Rel β x v) (hsz : 0 < sz) : ∃ olds, Olds P β hp w e sz n m f ks v olds := by
  unfold appBase at h
  split at h <;> first | exact (none_ne h).elim | skip
  · simp only [Option.some.injEq, Prod.mk.injEq] at h
    obtain ⟨rfl, rfl, rfl, rfl, rfl⟩ := h
    simp only [Rel] at hx; subst hx
    exact ⟨[], by simp, fun i k hi => by omega, _, _, rfl, Nat.le_refl _, run_firstCells_none w.drew sz 0 0 0, fun _ => rfl, .inl ⟨rfl, rfl, fun _ => rfl⟩⟩
  · rename_i i sz' n'
    cases hb : Nat.beq sz sz' with
    | false => rw [hb] at h; cases h
    | true =>
    rw [hb] at h; simp only [cond_true] at h
    have := beq_nat hb; subst this
    obtain ⟨base, room, rfl, h1, h2, h3, h4⟩ := hx
    have bare : n' = 0 → ∀ f : Nat → Nat → SV, ∀ o, hget i hp = some o → ∃ olds, Olds P β hp w e sz n' m f [i] (.slice base n' room) olds := by
      rintro rfl f o ho
      have hr := (h2 rfl).1 rfl
      subst hr
      refine ⟨[], by simp, fun i k hi => by omega, _, _, rfl, Nat.le_refl _, ?_, fun _ => rfl, .inr ⟨i, o, rfl, ho, Nat.zero_le _, fun hh => by omega⟩⟩
      cases base with
      | none => exact run_firstCells_none w.drew sz 0 0 0
      | some a => exact run_firstCells_some w.drew sz 0 a 0 0 [] (by simp) (fun j u hu => by simp at hu)
    have full : 0 < n' → ∀ f : Nat → Nat → SV, ∀ o, hget i hp = some o → o.Live → (∀ ob, ORel β o ob → Fit (β.room i) ob → ∃ cur, ob = .cells cur e (0, 0) ∧ n' * sz ≤ cur.size ∧ ∀ j k, j < n' → k < sz → ∃ u, cur[j * sz + k]? = some u ∧ Rel β (f j k) u) →
        ∃ olds, Olds P β hp w e sz n' m f [i] (.slice base n' room) olds := by
      intro hn f o ho hl hcur
      obtain ⟨h5, b, hβ, rfl, h6⟩ := h4 hn
      obtain ⟨b', ob, g1, g2, g3, g4, g5⟩ := hs.own _ _ ho hl
      rw [hβ] at g1; injection g1 with g1; subst g1
      obtain ⟨cur, rfl, c1, c2⟩ := hcur ob g4 g5
      have hfit : β.room i ≤ cur.size := g5.s
      have h7 := h6 rfl
      clear h6
      simp only [Nat.zero_mul, Nat.add_zero]
      refine ⟨cur.toList.take (n' * sz), by simp; omega, fun j k hj hk => ?_, _, _, rfl, h5, olds_take g3 c1, fun hh => by omega, .inr ⟨i, o, rfl, ho, (h2 rfl).2, fun _ => ⟨hl, b, cur, hβ, rfl, g3, h7, by omega, rfl⟩⟩⟩
      obtain ⟨u, u1, u2⟩ := c2 j k hj hk
      refine ⟨u, ?_, u2⟩
      have : (j + 1) * sz ≤ n' * sz := Nat.mul_le_mul_right _ hj
      rw [Nat.add_mul] at this
      rw [List.getElem?_take, if_pos (by omega)]
      simpa using u1
    split at h <;> first | exact (none_ne h).elim | skip
    · rename_i n'' cap'' sz'' f' ty hget_
      obtain ⟨hq, h⟩ := bif_some h
      simp only [Prod.mk.injEq] at h
      obtain ⟨rfl, rfl, rfl, rfl, rfl⟩ := h
      simp only [Bool.and_eq_true, Bool.not_eq_true'] at hq
      have q1 := beq_nat hq.1.1; have q2 := beq_nat hq.1.2
      subst q1 q2
      obtain rfl : n' = n'' := hc.head
      by_cases hn : 0 < n'
      · refine full hn f' _ hget_ hn (fun ob hor hfit => ?_)
        obtain ⟨c, fz, tt, htt, rfl, k1, k2, k3⟩ := hor
        have htt : ty = tt := by
          rcases htt with q | q
          · rw [q] at hq; exact absurd hq.2 (by simp)
          · exact q
        subst htt
        have k5 : fz = (0, 0) := hfit.l
        subst k5
        refine ⟨c, rfl, ?_, fun j k hj hk => ?_⟩
        · have : n' * sz ≤ cap'' * sz := Nat.mul_le_mul_right _ k1
          omega
        · obtain ⟨u, u1, u2⟩ := k3 j k hj hk
          exact ⟨u, by simpa using u1, u2⟩
      · exact bare (by omega) f' _ hget_
    · rename_i us ty hget_
      obtain ⟨hq, h⟩ := bif_some h
      simp only [Prod.mk.injEq] at h
      obtain ⟨rfl, rfl, rfl, rfl, rfl⟩ := h
      simp only [Bool.and_eq_true] at hq
      have q1 := beq_nat hq.1
      subst q1
      have hle : n' * sz ≤ us.length := hc.head
      by_cases hn : 0 < n'
      · refine full hn _ _ hget_ trivial (fun ob hor hfit => ?_)
        obtain ⟨xs, rfl, hl⟩ := hor
        have hxl := hl.length
        refine ⟨xs.toArray, rfl, by simp; omega, fun j k hj hk => ?_⟩
        have : (j + 1) * sz ≤ n' * sz := Nat.mul_le_mul_right _ hj
        rw [Nat.add_mul] at this
        have hgg : us[j * sz + k]? = some (us.getD (j * sz + k) .und) := by
          rw [List.getD_eq_getElem?_getD, List.getElem?_eq_getElem (by omega)]; rfl
        obtain ⟨u, u1, u2⟩ := hl.get hgg
        exact ⟨u, by simpa using u1, u2⟩
      · exact bare (by omega) _ _ hget_
  · rename_i i off s sz' n'
    cases hb : Nat.beq sz sz' with
    | false => rw [hb] at h; cases h
    | true =>
    rw [hb] at h; simp only [cond_true] at h
    have := beq_nat hb; subst this
    split at h <;> first | exact (none_ne h).elim | skip
    rename_i so hso
    split at h <;> first | exact (none_ne h).elim | skip
    rename_i cs' g' he
    simp only [Option.some.injEq, Prod.mk.injEq] at h
    obtain ⟨rfl, rfl, rfl, rfl, rfl⟩ := h
    obtain ⟨base, room, rfl, h1, h2, h3, h4⟩ := hx
    have hr := h3 rfl
    subst hr
    have hm : 0 < m := hg.head
    by_cases hn : 0 < room
    · obtain ⟨h5, b, hβ, rfl, _⟩ := h4 hn
      obtain ⟨news, n1, n2, n3, n4⟩ := elems_cells hs hso hβ he hc hsz hn
      exact ⟨news, n1, n4, _, _, rfl, Nat.le_refl _, run_firstCells_some w.drew sz room _ room room news n1 (by simpa using n2), fun h => h, .inl ⟨rfl, rfl, fun h => by omega⟩⟩
    · have : room = 0 := by omega
      subst this
      refine ⟨[], by simp, fun i k hi => by omega, _, _, rfl, Nat.le_refl _, ?_, fun _ => rfl, .inl ⟨rfl, rfl, fun _ => rfl⟩⟩
      cases base with
      | none => exact run_firstCells_none w.drew sz 0 0 0
      | some a => exact run_firstCells_some w.drew sz 0 a 0 0 [] (by simp) (fun j u hu => by simp at hu)

theorem app_run {P : Program} {β : Env} {hp ro : Hp} {B : Base} {nx : Nat} {w : World} (hs : Sat β hp ro B nx w) (hB : ∀ b o, B.D b = some o → b < B.w.heap.size) {sl : Slots} {ρ : Operand → Value} (hr : Rho β sl ρ) {o : Oper} {cs : List Prop} {q : App}
    (h : appOp P sl hp ro o.op = some (cs, q)) (hc : All cs) :
    ∃ (β' : Env) (w' : World) (v : Value), β.le β' ∧ Sat β' ((nx, .row 0 (q.n + q.m) (q.n + q.m) q.sz q.f q.e) :: hdrop' q.ks hp) ro B (nx + 1) w' ∧ Rel β' (.sq nx 0 0 q.sz (q.n + q.m) .own) v ∧
      (execOp ρ o).run P w = .ok (.value v) w' := by
  generalize hop : o.op = op at h
  unfold appOp at h
  split at h <;> first | exact (none_ne h).elim | skip
  rename_i as ts
  split at h <;> first | exact (none_ne h).elim | skip
  rename_i s x t t' eas ets
  have eas : as = #[s, x] := Array.toList_inj.1 (by simpa using eas)
  have ets : ts = #[t, t'] := Array.toList_inj.1 (by simpa using ets)
  subst eas ets
  split at h <;> first | exact (none_ne h).elim | skip
  rename_i e sz by_ hel
  split at h <;> first | exact (none_ne h).elim | skip
  rename_i c1 sv c2 xv h1 h2
  split at h <;> first | exact (none_ne h).elim | skip
  rename_i c3 ks n f gr c4 m g h3 h4
  simp only [Option.some.injEq, Prod.mk.injEq] at h
  obtain ⟨rfl, rfl⟩ := h
  unfold elemIn at hel
  split at hel <;> first | exact (none_ne hel).elim | skip
  rename_i e' ht
  split at hel <;> first | exact (none_ne hel).elim | skip
  rename_i inf hi
  split at hel <;> first | exact (none_ne hel).elim | skip
  rename_i z hz
  simp only [natF_eq] at hel
  obtain ⟨hzs, hel⟩ := bif_some hel
  simp only [Prod.mk.injEq] at hel
  obtain ⟨rfl, rfl, rfl⟩ := hel
  simp only [Bool.and_eq_true] at hzs
  have hsz : 0 < inf.size := ble_nat hzs.2
  have hzs := beq_nat hzs.1
  have hg : All (appCs gr n m inf.bytes) := hc.right
  have hby : (n + m) * inf.bytes ≤ 140737488355328 ∧ n + m ≤ 9223372036854775807 := by
    cases gr with
    | true => exact ⟨hg.tail.head, hg.tail.tail.head⟩
    | false => exact ⟨hg.head, hg.tail.head⟩
  obtain ⟨hby, h63⟩ := hby
  have hsv := evs_rel hr h1 hc.left.left.left.left
  have hxv := evs_rel hr h2 hc.left.left.left.right
  have hmb : m * inf.bytes ≤ 281474976710656 := by
    have : m * inf.bytes ≤ (n + m) * inf.bytes := Nat.mul_le_mul_right _ (by omega)
    omega
  obtain ⟨news, hnl, hnr2, hA⟩ := appAny_rel (P := P) hs.toMem ht hi hz h4 hc.left.right hxv hsz (by omega) hmb
  obtain ⟨olds, hO⟩ := appBase_rel (P := P) hs.toMem h3 hc.left.left.right hg hsv hsz
  obtain ⟨ba, room, hve, hnr, hfc, hbare, hown⟩ := hO.v
  have hrun : ∀ {v w'}, (Builtin.append_ #[t, t'] o.type #[ρ s, ρ x]).run P w = .ok v w' → (execOp ρ o).run P w = .ok (.value v) w' := by
    intro v w' hh
    simp only [execOp, hop, resolve, invoke, builtin, Sem.run_bind, Sem.run_pure, Result.andThen_ok, List.map_toArray, List.map_cons, List.map_nil, hh]
  have hol := hO.len
  show ∃ (β' : Env) (w' : World) (v : Value), β.le β' ∧ Sat β' ((nx, .row 0 (n + m) (n + m) inf.size (appF f n g) e') :: hdrop' ks hp) ro B (nx + 1) w' ∧ Rel β' (.sq nx 0 0 inf.size (n + m) .own) v ∧ (execOp ρ o).run P w = .ok (.value v) w'
  by_cases hm : m = 0
  · -- nothing
    subst hm
    have hnews : news = [] := by simpa using hnl
    subst hnews
    have hr1 := hA.nothing rfl o.type ba n room hnr
    rw [← hve] at hr1
    rcases hown with ⟨rfl, e1, e2⟩ | ⟨i, so, rfl, hi', hbd, hlive⟩
    · have hn0 := e2 rfl
      subst hn0
      refine ⟨β, w, _, Env.le_refl _, ((hs.drop []).ghost _ (by show ¬ 0 < 0 + 0; omega)), ?_, hrun hr1⟩
      exact ⟨ba, room, by simpa using hve, fun _ => e1, fun _ => ⟨fun _ => e1, by rw [e1]; exact Nat.zero_le _⟩, fun hh => (by cases hh), fun hh => by omega⟩
    · by_cases hn : 0 < n
      · obtain ⟨hl, b, cur, hβ, rfl, hheap, hrm, hrc, hot⟩ := hlive hn
        have hfit : n * inf.size ≤ cur.size := Nat.le_trans (Nat.mul_le_mul_right _ hnr) hrc
        obtain ⟨b', ob, k1, k2, k3, k4, k5⟩ := hs.own _ _ hi' hl
        rw [hβ] at k1; injection k1 with k1; subst k1
        rw [hheap] at k3; injection k3 with k3; subst k3
        obtain ⟨β', g1, g2, gr', g3⟩ := hs.moved (w' := w) (so := .row 0 (n + 0) (n + 0) inf.size (appF f n g) e') hi' hl hβ (fun β' hle =>
          app_row (β := β') (olds := olds) (news := []) (rest := cur.toList.drop (n * inf.size)) (e := e') (fz := (0, 0)) (by rw [hot]; simp) hol (by simp) (Nat.le_refl _) (by simpa using hfit)
            (fun i k hi hk => let ⟨u, u1, u2⟩ := hO.rel i k hi hk; ⟨u, u1, Rel.mono hle _ _ u2⟩) (fun i k hi => by omega)) k5 hheap (fun _ _ => rfl) rfl rfl rfl rfl
        refine ⟨β', w, _, g1, g3, ?_, hrun hr1⟩
        exact ⟨some ⟨b, 0, none⟩, room, by simpa using hve, fun hh => (by simp at hh), fun _ => ⟨fun hh => by omega, hbd⟩, fun hh => (by cases hh), fun _ => ⟨hnr, b, g2, by simp, fun _ => by rw [gr']; exact hrm⟩⟩
      · have hn0 : n = 0 := by omega
        subst hn0
        have hr0 := hbare rfl
        refine ⟨β, w, _, Env.le_refl _, ((hs.drop [i]).ghost _ (by show ¬ 0 < 0 + 0; omega)), ?_, hrun hr1⟩
        exact ⟨ba, room, by simpa using hve, fun _ => hr0, fun _ => ⟨fun _ => hr0, by rw [hr0]; exact Nat.zero_le _⟩, fun hh => (by cases hh), fun hh => by omega⟩
  · have hm0 : 0 < m := by omega
    by_cases hroom : n + m ≤ room
    · -- there is room
      rcases hown with ⟨rfl, e1, e2⟩ | ⟨i, so, rfl, hi', hbd, hlive⟩
      · omega
      · have hn : 0 < n := by
          rcases Nat.eq_zero_or_pos n with q | q
          · have := hbare q; omega
          · exact q
        obtain ⟨hl, b, cur, hβ, rfl, hheap, hrm, hrc, hot⟩ := hlive hn
        have hfit : (n + m) * inf.size ≤ cur.size := Nat.le_trans (Nat.mul_le_mul_right _ hroom) hrc
        have hfit2 : n * inf.size + news.length ≤ cur.size := by rw [hnl, ← Nat.add_mul]; exact hfit
        have hr1 := hA.room hm0 o.type b n room cur hheap hroom hfit2
        obtain ⟨b', ob, k1, k2, k3, k4, k5⟩ := hs.own _ _ hi' hl
        rw [hβ] at k1; injection k1 with k1; subst k1
        rw [hheap] at k3; injection k3 with k3; subst k3
        have k6 : β.room i ≤ cur.size := k5.s
        obtain ⟨β', g1, g2, gr', g3⟩ := hs.moved (w' := w.setRow b (cur.toList.take (n * inf.size) ++ news ++ cur.toList.drop (n * inf.size + news.length)).toArray) (so := .row 0 (n + m) (n + m) inf.size (appF f n g) e') hi' hl hβ (fun β' hle =>
          app_row (β := β') (olds := olds) (news := news) (rest := cur.toList.drop (n * inf.size + news.length)) (e := e') (fz := (0, 0)) (by rw [hot]) hol hnl (Nat.le_refl _) (by
            simp only [List.size_toArray, List.length_append, List.length_take, List.length_drop, Array.length_toList]; omega)
            (fun i k hi hk => let ⟨u, u1, u2⟩ := hO.rel i k hi hk; ⟨u, u1, Rel.mono hle _ _ u2⟩) (fun i k hi hk => let ⟨u, u1, u2⟩ := hnr2 i k hi hk; ⟨u, u1, Rel.mono hle _ _ u2⟩)) ⟨rfl, by
            show β.room i ≤ Array.size _
            simp only [List.size_toArray, List.length_append, List.length_take, List.length_drop, Array.length_toList]; omega⟩
          (setRow_heap w b cur _ e' (0, 0) hheap) (fun k hk => setRow_other w b k _ hk) (by simp [World.setRow]) rfl rfl rfl
        refine ⟨β', _, _, g1, g3, ?_, hrun (by rw [hve]; exact hr1)⟩
        exact ⟨some ⟨b, 0, none⟩, room, rfl, fun hh => (by simp at hh), fun _ => ⟨fun hh => by omega, hbd⟩, fun hh => (by cases hh), fun _ => ⟨hroom, b, g2, by simp, fun _ => by rw [gr']; exact hrm⟩⟩
    · -- a new block
      rw [hve] at hfc
      have hr1 := hA.grow hm0 o.type ba n room olds hfc (by omega) (by omega) (growslice_fits (by omega) hby)
      have hge := grownCap_ge w (n + m) room e'
      have hsize : ((olds ++ news).toArray ++ Builtin.zeroCells z.cells (grownCap w (n + m) room e' - (n + m))).size = grownCap w (n + m) room e' * inf.size := by
        simp only [Array.size_append, List.size_toArray, List.length_append, size_zeroCells, hzs, hol, hnl, ← Nat.add_mul]
        congr 1; omega
      obtain ⟨β', g1, g2, gr', g3⟩ := ((hs.drew).drop ks).new (.row 0 (n + m) (n + m) inf.size (appF f n g) e') (.cells ((olds ++ news).toArray ++ Builtin.zeroCells z.cells (grownCap w (n + m) room e' - (n + m))) e') hB (fun β' hle _ => by
        refine app_row (olds := olds) (news := news) (rest := (Builtin.zeroCells z.cells (grownCap w (n + m) room e' - (n + m))).toList) (by simp) hol hnl (Nat.le_refl _) ?_ (fun i k hi hk => ?_) (fun i k hi hk => ?_)
        · rw [hsize]; exact Nat.mul_le_mul_right _ hge
        · obtain ⟨u, u1, u2⟩ := hO.rel i k hi hk; exact ⟨u, u1, Rel.mono hle _ _ u2⟩
        · obtain ⟨u, u1, u2⟩ := hnr2 i k hi hk; exact ⟨u, u1, Rel.mono hle _ _ u2⟩) rfl
      refine ⟨β', _, _, g1, g3, ?_, hrun (by rw [hve]; exact hr1)⟩
      refine ⟨some ⟨w.heap.size, 0, none⟩, _, rfl, fun hh => (by simp at hh), fun _ => ⟨fun hh => by omega, grownCap_le_maxLen w (n + m) room e' (by simp only [maxLen]; omega)⟩, fun hh => (by cases hh), fun _ => ⟨hge, w.heap.size, g2, by simp, fun _ => ?_⟩⟩
      rw [gr']
      show _ ≤ Array.size _
      rw [hsize]; exact Nat.le_refl _
/-- What an append leaves as it was. -/
structure AppDid (ks : List Nat) (hp : Hp) (β : Env) (idn : Nat) (w : World) (β' : Env) (w' : World) : Prop where
  new : ∀ i bl, β' i = some bl → β i = some bl ∨ i = idn
  kept : ∀ bl o, w.heap[bl]? = some o → (∀ t s, t ∈ ks → hget t hp = some s → s.Live → β t = some bl → False) → w'.heap[bl]? = some o
  os : w'.os = w.os
  tape : w'.tape = w.tape
  output : w'.output = w.output
  size : w.heap.size ≤ w'.heap.size
theorem app_did {P : Program} {β : Env} {hp ro : Hp} {B : Base} {w : World} (idn : Nat) (hs : Mem β hp ro B w) (hf : β idn = none) {sl : Slots} {ρ : Operand → Value} (hr : Rho β sl ρ) {o : Oper} {cs : List Prop} {q : App}
    (h : appOp P sl hp ro o.op = some (cs, q)) (hc : All cs) :
    ∃ (β' : Env) (w' : World) (v : Value), β.le β' ∧ (execOp ρ o).run P w = .ok (.value v) w' ∧ Rel β' (.sq idn 0 0 q.sz (q.n + q.m) .own) v ∧
      ((SO.row 0 (q.n + q.m) (q.n + q.m) q.sz q.f q.e).Live → ∃ bl ob, β' idn = some bl ∧ w'.heap[bl]? = some ob ∧ ORel β' (.row 0 (q.n + q.m) (q.n + q.m) q.sz q.f q.e) ob ∧ Fit (β'.room idn) ob ∧
        (bl = w.heap.size ∨ ∃ t s, t ∈ q.ks ∧ hget t hp = some s ∧ s.Live ∧ β t = some bl)) ∧ AppDid q.ks hp β idn w β' w' := by
  generalize hop : o.op = op at h
  unfold appOp at h
  split at h <;> first | exact (none_ne h).elim | skip
  rename_i as ts
  split at h <;> first | exact (none_ne h).elim | skip
  rename_i s x t t' eas ets
  have eas : as = #[s, x] := Array.toList_inj.1 (by simpa using eas)
  have ets : ts = #[t, t'] := Array.toList_inj.1 (by simpa using ets)
  subst eas ets
  split at h <;> first | exact (none_ne h).elim | skip
  rename_i e sz by_ hel
  split at h <;> first | exact (none_ne h).elim | skip
  rename_i c1 sv c2 xv h1 h2
  split at h <;> first | exact (none_ne h).elim | skip
  rename_i c3 ks n f gr c4 m g h3 h4
  simp only [Option.some.injEq, Prod.mk.injEq] at h
  obtain ⟨rfl, rfl⟩ := h
  unfold elemIn at hel
  split at hel <;> first | exact (none_ne hel).elim | skip
  rename_i e' ht
  split at hel <;> first | exact (none_ne hel).elim | skip
  rename_i inf hi
  split at hel <;> first | exact (none_ne hel).elim | skip
  rename_i z hz
  simp only [natF_eq] at hel
  obtain ⟨hzs, hel⟩ := bif_some hel
  simp only [Prod.mk.injEq] at hel
  obtain ⟨rfl, rfl, rfl⟩ := hel
  simp only [Bool.and_eq_true] at hzs
  have hsz : 0 < inf.size := ble_nat hzs.2
  have hzs := beq_nat hzs.1
  have hg : All (appCs gr n m inf.bytes) := hc.right
  have hby : (n + m) * inf.bytes ≤ 140737488355328 ∧ n + m ≤ 9223372036854775807 := by
    cases gr with
    | true => exact ⟨hg.tail.head, hg.tail.tail.head⟩
    | false => exact ⟨hg.head, hg.tail.head⟩
  obtain ⟨hby, h63⟩ := hby
  have hsv := evs_rel hr h1 hc.left.left.left.left
  have hxv := evs_rel hr h2 hc.left.left.left.right
  have hmb : m * inf.bytes ≤ 281474976710656 := by
    have : m * inf.bytes ≤ (n + m) * inf.bytes := Nat.mul_le_mul_right _ (by omega)
    omega
  obtain ⟨news, hnl, hnr2, hA⟩ := appAny_rel (P := P) hs ht hi hz h4 hc.left.right hxv hsz (by omega) hmb
  obtain ⟨olds, hO⟩ := appBase_rel (P := P) hs h3 hc.left.left.right hg hsv hsz
  obtain ⟨ba, room, hve, hnr, hfc, hbare, hown⟩ := hO.v
  have hrun : ∀ {v w'}, (Builtin.append_ #[t, t'] o.type #[ρ s, ρ x]).run P w = .ok v w' → (execOp ρ o).run P w = .ok (.value v) w' := by
    intro v w' hh
    simp only [execOp, hop, resolve, invoke, builtin, Sem.run_bind, Sem.run_pure, Result.andThen_ok, List.map_toArray, List.map_cons, List.map_nil, hh]
  have hol := hO.len
  show ∃ (β' : Env) (w' : World) (v : Value), β.le β' ∧ (execOp ρ o).run P w = .ok (.value v) w' ∧ Rel β' (.sq idn 0 0 inf.size (n + m) .own) v ∧
      ((SO.row 0 (n + m) (n + m) inf.size (appF f n g) e').Live → ∃ bl ob, β' idn = some bl ∧ w'.heap[bl]? = some ob ∧ ORel β' (.row 0 (n + m) (n + m) inf.size (appF f n g) e') ob ∧ Fit (β'.room idn) ob ∧
        (bl = w.heap.size ∨ ∃ t s, t ∈ ks ∧ hget t hp = some s ∧ s.Live ∧ β t = some bl)) ∧ AppDid ks hp β idn w β' w'
  have newadd : ∀ (b r : Nat) i bl, β.add idn b r i = some bl → β i = some bl ∨ i = idn := by
    intro b r i bl hb
    by_cases e : i = idn
    · exact .inr e
    · rw [Env.add_other _ _ _ e] at hb; exact .inl hb
  have same : ∀ ks, AppDid ks hp β idn w β w := fun ks => ⟨fun _ _ h => .inl h, fun _ _ h _ => h, rfl, rfl, rfl, Nat.le_refl _⟩
  by_cases hm : m = 0
  · -- nothing
    subst hm
    have hnews : news = [] := by simpa using hnl
    subst hnews
    have hr1 := hA.nothing rfl o.type ba n room hnr
    rw [← hve] at hr1
    rcases hown with ⟨rfl, e1, e2⟩ | ⟨i, so, rfl, hi', hbd, hlive⟩
    · have hn0 := e2 rfl
      subst hn0
      refine ⟨β, w, _, Env.le_refl _, hrun hr1, ?_, fun hh => absurd hh (by show ¬ 0 < 0 + 0; omega), same _⟩
      exact ⟨ba, room, by simpa using hve, fun _ => e1, fun _ => ⟨fun _ => e1, by rw [e1]; exact Nat.zero_le _⟩, fun hh => (by cases hh), fun hh => by omega⟩
    · by_cases hn : 0 < n
      · obtain ⟨hl, b, cur, hβ, rfl, hheap, hrm, hrc, hot⟩ := hlive hn
        have hfit : n * inf.size ≤ cur.size := Nat.le_trans (Nat.mul_le_mul_right _ hnr) hrc
        obtain ⟨b', ob, k1, k2, k3, k4, k5⟩ := hs.own _ _ hi' hl
        rw [hβ] at k1; injection k1 with k1; subst k1
        rw [hheap] at k3; injection k3 with k3; subst k3
        have hle : β.le (β.add idn b (β.room i)) := Env.le_add hf
        refine ⟨_, w, _, hle, hrun hr1, ?_, fun _ => ⟨b, _, Env.add_same .., hheap, ?_, by rw [Env.add_room]; exact k5, .inr ⟨i, so, by simp, hi', hl, hβ⟩⟩, newadd _ _, fun _ _ h _ => h, rfl, rfl, rfl, Nat.le_refl _⟩
        · exact ⟨some ⟨b, 0, none⟩, room, by simpa using hve, fun hh => (by simp at hh), fun _ => ⟨fun hh => by omega, hbd⟩, fun hh => (by cases hh), fun _ => ⟨hnr, b, Env.add_same .., by simp, fun _ => by rw [Env.add_room]; exact hrm⟩⟩
        · exact app_row (olds := olds) (news := []) (rest := cur.toList.drop (n * inf.size)) (e := e') (fz := (0, 0)) (by rw [hot]; simp) hol (by simp) (Nat.le_refl _) (by simpa using hfit)
            (fun i k hi hk => let ⟨u, u1, u2⟩ := hO.rel i k hi hk; ⟨u, u1, Rel.mono hle _ _ u2⟩) (fun i k hi => by omega)
      · have hn0 : n = 0 := by omega
        subst hn0
        have hr0 := hbare rfl
        refine ⟨β, w, _, Env.le_refl _, hrun hr1, ?_, fun hh => absurd hh (by show ¬ 0 < 0 + 0; omega), same _⟩
        exact ⟨ba, room, by simpa using hve, fun _ => hr0, fun _ => ⟨fun _ => hr0, by rw [hr0]; exact Nat.zero_le _⟩, fun hh => (by cases hh), fun hh => by omega⟩
  · have hm0 : 0 < m := by omega
    by_cases hroom : n + m ≤ room
    · -- there is room
      rcases hown with ⟨rfl, e1, e2⟩ | ⟨i, so, rfl, hi', hbd, hlive⟩
      · omega
      · have hn : 0 < n := by
          rcases Nat.eq_zero_or_pos n with q | q
          · have := hbare q; omega
          · exact q
        obtain ⟨hl, b, cur, hβ, rfl, hheap, hrm, hrc, hot⟩ := hlive hn
        have hfit : (n + m) * inf.size ≤ cur.size := Nat.le_trans (Nat.mul_le_mul_right _ hroom) hrc
        have hfit2 : n * inf.size + news.length ≤ cur.size := by rw [hnl, ← Nat.add_mul]; exact hfit
        have hr1 := hA.room hm0 o.type b n room cur hheap hroom hfit2
        obtain ⟨b', ob, k1, k2, k3, k4, k5⟩ := hs.own _ _ hi' hl
        rw [hβ] at k1; injection k1 with k1; subst k1
        rw [hheap] at k3; injection k3 with k3; subst k3
        have k6 : β.room i ≤ cur.size := k5.s
        have hle : β.le (β.add idn b (β.room i)) := Env.le_add hf
        refine ⟨_, w.setRow b (cur.toList.take (n * inf.size) ++ news ++ cur.toList.drop (n * inf.size + news.length)).toArray, _, hle, hrun (by rw [hve]; exact hr1), ?_,
          fun _ => ⟨b, _, Env.add_same .., setRow_heap w b cur _ e' (0, 0) hheap, ?_, ⟨rfl, ?_⟩, .inr ⟨i, so, by simp, hi', hl, hβ⟩⟩, newadd _ _, fun bl o2 hh hno => ?_, rfl, rfl, rfl, by simp [World.setRow]⟩
        · exact ⟨some ⟨b, 0, none⟩, room, rfl, fun hh => (by simp at hh), fun _ => ⟨fun hh => by omega, hbd⟩, fun hh => (by cases hh), fun _ => ⟨hroom, b, Env.add_same .., by simp, fun _ => by rw [Env.add_room]; exact hrm⟩⟩
        · exact app_row (olds := olds) (news := news) (rest := cur.toList.drop (n * inf.size + news.length)) (e := e') (fz := (0, 0)) (by rw [hot]) hol hnl (Nat.le_refl _) (by
            simp only [List.size_toArray, List.length_append, List.length_take, List.length_drop, Array.length_toList]; omega)
            (fun i k hi hk => let ⟨u, u1, u2⟩ := hO.rel i k hi hk; ⟨u, u1, Rel.mono hle _ _ u2⟩) (fun i k hi hk => let ⟨u, u1, u2⟩ := hnr2 i k hi hk; ⟨u, u1, Rel.mono hle _ _ u2⟩)
        · rw [Env.add_room]
          show β.room i ≤ Array.size _
          simp only [List.size_toArray, List.length_append, List.length_take, List.length_drop, Array.length_toList]; omega
        · by_cases e : bl = b
          · subst e; exact (hno i so (by simp) hi' hl hβ).elim
          · rw [setRow_other w b bl _ e]; exact hh
    · -- a new block
      rw [hve] at hfc
      have hr1 := hA.grow hm0 o.type ba n room olds hfc (by omega) (by omega) (growslice_fits (by omega) hby)
      have hge := grownCap_ge w (n + m) room e'
      have hsize : ((olds ++ news).toArray ++ Builtin.zeroCells z.cells (grownCap w (n + m) room e' - (n + m))).size = grownCap w (n + m) room e' * inf.size := by
        simp only [Array.size_append, List.size_toArray, List.length_append, size_zeroCells, hzs, hol, hnl, ← Nat.add_mul]
        congr 1; omega
      have hle : β.le (β.add idn w.heap.size (grownCap w (n + m) room e' * inf.size)) := Env.le_add hf
      refine ⟨_, w.drew.alloc (.cells ((olds ++ news).toArray ++ Builtin.zeroCells z.cells (grownCap w (n + m) room e' - (n + m))) e' (0, 0)), _, hle, hrun (by rw [hve]; exact hr1), ?_, fun _ => ⟨w.heap.size, (.cells ((olds ++ news).toArray ++ Builtin.zeroCells z.cells (grownCap w (n + m) room e' - (n + m))) e' (0, 0)), Env.add_same .., ?_, ?_, ⟨rfl, ?_⟩, .inl rfl⟩, newadd _ _, fun bl o2 hh _ => ?_, rfl, rfl, rfl, by simp [World.size_alloc]⟩
      · refine ⟨some ⟨w.heap.size, 0, none⟩, _, rfl, fun hh => (by simp at hh), fun _ => ⟨fun hh => by omega, grownCap_le_maxLen w (n + m) room e' (by simp only [maxLen]; omega)⟩, fun hh => (by cases hh), fun _ => ⟨hge, w.heap.size, Env.add_same .., by simp, fun _ => ?_⟩⟩
        rw [Env.add_room]; exact Nat.le_refl _
      · show ((w.drew.heap).push _)[w.heap.size]? = _
        have : w.drew.heap = w.heap := rfl
        rw [this]; simp
      · refine app_row (olds := olds) (news := news) (rest := (Builtin.zeroCells z.cells (grownCap w (n + m) room e' - (n + m))).toList) (by simp) hol hnl (Nat.le_refl _) ?_ (fun i k hi hk => ?_) (fun i k hi hk => ?_)
        · rw [hsize]; exact Nat.mul_le_mul_right _ hge
        · obtain ⟨u, u1, u2⟩ := hO.rel i k hi hk; exact ⟨u, u1, Rel.mono hle _ _ u2⟩
        · obtain ⟨u, u1, u2⟩ := hnr2 i k hi hk; exact ⟨u, u1, Rel.mono hle _ _ u2⟩
      · rw [Env.add_room]
        show _ ≤ Array.size _
        rw [hsize]; exact Nat.le_refl _
      · have := RowKit.Below.heap_alloc w.drew (.cells ((olds ++ news).toArray ++ Builtin.zeroCells z.cells (grownCap w (n + m) room e' - (n + m))) e') bl (Array.getElem?_eq_some_iff.1 hh).1
        rw [this]; exact hh
end Sx
end
section
namespace Sx
open Go

def sfill (place : Nat → Option (Nat × Nat)) (cells : List SV) : List (Nat × SV) → Option (List SV)
  | [] => some cells
  | (i, v) :: rest => match place i with
    | some (off, size) => bif Nat.beq v.cells.length size && v.cells.all storable then
        match setAt cells off v.cells with
        | some r => sfill place r rest
        | none => none
        else none
    | none => none
def evParts (sl : Slots) : List (Nat × Operand) → Option (List Prop × List (Nat × SV))
  | [] => some ([], [])
  | (i, x) :: r => match evs sl x, evParts sl r with
    | some (cs, v), some (ds, l) => some (cs ++ ds, (i, v) :: l)
    | _, _ => none
def evList (sl : Slots) : List Operand → Option (List Prop × List SV)
  | [] => some ([], [])
  | x :: r => match evs sl x, evList sl r with
    | some (cs, v), some (ds, l) => some (cs ++ ds, v :: l)
    | _, _ => none
def placesIn (P : Program) : List Field → Option (List (Nat × Nat))
  | [] => some []
  | f :: r => match sizeIn P f.type, placesIn P r with
    | some s, some l => some ((f.offset, s) :: l)
    | _, _ => none
def zeroCellsIn (P : Program) (t : TypeId) : Option (List SV) :=
  match zeroIn P t with
  | some z => bif z.cells.all storable then some z.cells else none
  | none => none
def buildV (P : Program) (t : TypeId) (parts : List (Nat × SV)) : Option (List SV) :=
  match P.underlying t with
  | some (.array _ e) => match zeroCellsIn P t, sizeIn P e with
    | some z, some s => sfill (fun i => some (i * s, s)) z parts
    | _, _ => none
  | some (.struct fields) => match zeroCellsIn P t, placesIn P fields.toList with
    | some z, some places => sfill (fun i => places[i]?) z parts
    | _, _ => none
  | _ => none

def bound (x : Option SV) (top : Nat) (dflt : Nat) : Option (List Prop × Nat) :=
  match x with
  | none => some ([], dflt)
  | some (.int _ n) => some ([0 ≤ n, n ≤ top], n.toNat)
  | _ => none
def sliceV (P : Program) (t : TypeId) (x : SV) (lo hi mx : Option SV) : Option (List Prop × SV) :=
  match P.underlying t, x with
  | some (.slice el), .sl i off s sz len cap => match sizeIn P el with
    | some m => bif Nat.beq m sz && (hi.isSome || mx.isNone) then
        match bound mx cap cap with
        | some (c1, M) => match bound hi M len with
          | some (c2, H) => match lo with
            | none => some (c1 ++ c2, .sl i off s sz H M)
            | some (.int _ l) => some (c1 ++ c2 ++ [0 ≤ l, l ≤ H], .sl i off (s + l.toNat) sz (H - l.toNat) (M - l.toNat))
            | _ => none
          | none => none
        | none => none
      else none
    | none => none
  | some (.slice el), .sq i off s sz len _ => match sizeIn P el with
    | some m => bif Nat.beq m sz && (hi.isSome || mx.isNone) then
        match bound hi len len with
        | some (c2, H) => match mx, lo with
          | none, none => some (c2, .sq i off s sz H .no)
          | none, some (.int _ l) => some (c2 ++ [0 ≤ l, l ≤ H], .sq i off (s + l.toNat) sz (H - l.toNat) .no)
          | some (.int _ x), none => some (c2 ++ [x = H], .sq i off s sz H .full)
          | some (.int _ x), some (.int _ l) => some (c2 ++ [x = H, 0 ≤ l, l ≤ H], .sq i off (s + l.toNat) sz (H - l.toNat) .full)
          | _, _ => none
        | none => none
      else none
    | none => none
  | some (.slice el), .nilsl => match sizeIn P el with
    | some _ => bif (hi.isSome || mx.isNone) then
        match bound mx 0 0 with
        | some (c1, _) => match bound hi 0 0 with
          | some (c2, _) => match bound lo 0 0 with
            | some (c3, _) => some (c1 ++ c2 ++ c3, .nilsl)
            | none => none
          | none => none
        | none => none
      else none
    | none => none
  | some (.array n el), .ptr i off => match sizeIn P el with
    | some m => bif (hi.isSome || mx.isNone) then
        match bound mx n n with
        | some (c1, M) => match bound hi M n with
          | some (c2, H) => match lo with
            | none => some (c1 ++ c2, .sl i off 0 m H M)
            | some (.int _ l) => some (c1 ++ c2 ++ [0 ≤ l, l ≤ H], .sl i off l.toNat m (H - l.toNat) (M - l.toNat))
            | _ => none
          | none => none
        | none => none
      else none
    | none => none
  | _, _ => none
def evO (sl : Slots) : Option Operand → Option (List Prop × Option SV)
  | none => some ([], none)
  | some x => match evs sl x with
    | some (cs, v) => some (cs, some v)
    | none => none

def lenV (P : Program) (t : TypeId) (x : SV) : Option SV :=
  match P.underlying t, x with
  | some (.slice _), .sl _ _ _ _ len _ => some (.int .i64 len)
  | some (.slice _), .sq _ _ _ _ len _ => some (.int .i64 len)
  | some (.slice _), .nilsl => some (.int .i64 0)
  | some (.array n _), _ => some (.int .i64 n)
  | some .string, .str s => some (.int .i64 s.size)
  | some (.map _ _), .nilmp => some (.int .i64 0)
  | _, _ => none
def minV (mx : Bool) : SV → List SV → Option SV
  | .int k a, [] => some (.int k a)
  | .int k a, .int k' b :: r => bif keq k k' then minV mx (.int k (bif mx then max a b else min a b)) r else none
  | _, _ => none

def IsIf (P : Program) (t : TypeId) : Prop := ∃ a, P.underlying t = some (.interface a)
def IsBo (P : Program) (t : TypeId) : Prop := P.underlying t = some .bool
def IsSl (P : Program) (t : TypeId) : Prop := ∃ a, P.underlying t = some (.slice a)
/-- More comparisons against nil. -/
def isCst : Operand → Bool
  | .const _ => true
  | _ => false
def bin2 (P : Program) (op : BinOp) (t : TypeId) (yc : Bool) (x y : SV) : Option (List Prop × SV) :=
  match x, y with
  | .nilif, .nilif => bif yc then match eqOp op true with
    | some v => some ([IsIf P t], v)
    | none => none
    else none
  | .ifc _ _, .nilif => match eqOp op false with
    | some v => some ([IsIf P t], v)
    | none => none
  | .nilsl, .nilsl => match eqOp op true with
    | some v => some ([IsSl P t], v)
    | none => none
  | .sq _ _ _ _ len _, .nilsl => match eqOp op false with
    | some v => some ([IsSl P t, 0 < len], v)
    | none => none
  | .ep .., .nil => match eqOp op false with
    | some v => some ([IsPt P t], v)
    | none => none
  | x, y => match tr x, tr y with
    | some a, some b => match eqOp op (a == b) with
      | some v => some ([IsBo P t], v)
      | none => none
    | _, _ => none
/-- More operations that only give a value. -/
def quiet2 (P : Program) (sl : Slots) : Op → Option (List Prop × SV)
  | .makeFunc fn a c => match evList sl a.toList, evList sl c.toList with
    | some (cs, la), some (ds, lc) => some (cs ++ ds, .clo fn la lc)
    | _, _ => none
  | .build t parts => match evParts sl parts.toList with
    | some (cs, l) => match buildV P t l with
      | some r => some (cs, .agg r)
      | none => none
    | none => none
  | .slice t x lo hi mx => match evs sl x, evO sl lo, evO sl hi, evO sl mx with
    | some (c0, x), some (c1, lo), some (c2, hi), some (c3, mx) => match sliceV P t x lo hi mx with
      | some (c4, v) => some (c0 ++ c1 ++ c2 ++ c3 ++ c4, v)
      | none => none
    | _, _, _, _ => none
  | .makeInterface t x => match P.underlying t, evs sl x with
    | some (.interface _), _ => none
    | some _, some (cs, v) => some (cs, .ifc t v)
    | _, _ => none
  | .typeAssert x _ t false => match P.underlying t, evs sl x with
    | some (.interface _), _ => none
    | some _, some (cs, .ifc t' v) => bif Nat.beq t' t then some (cs, v) else none
    | _, _ => none
  | .typeAssert x _ t true => match P.underlying t, evs sl x with
    | some (.interface _), _ => none
    | some _, some (cs, .ifc t' v) => bif Nat.beq t' t then some (cs, .tup [v, .tt]) else none
    | _, _ => none
  | .binOp op t x y _ => match evs sl x, evs sl y with
    | some (cs, a), some (ds, b) => match bin2 P op t (isCst y) a b with
      | some (es, v) => some (cs ++ ds ++ es, v)
      | none => none
    | _, _ => none
  | .call { callee := .builtin .len, args := as, argTypes := ts } => match ts.toList, evList sl as.toList with
    | [t], some (cs, [x]) => match lenV P t x with
      | some v => some (cs, v)
      | none => none
    | _, _ => none
  | .call { callee := .builtin .min, args := as, argTypes := _ } => match evList sl as.toList with
    | some (cs, x :: r) => match minV false x r with
      | some v => some (cs, v)
      | none => none
    | _ => none
  | .call { callee := .builtin .max, args := as, argTypes := _ } => match evList sl as.toList with
    | some (cs, x :: r) => match minV true x r with
      | some v => some (cs, v)
      | none => none
    | _ => none
  | .index t x i => match evs sl x, evs sl i with
    | some (cs, .agg l), some (ds, .int _ n) => match P.underlying t with
      | some (.array len el) => match sizeIn P el with
        | some m => match partOf P el l (n.toNat * m) with
          | some v => some (cs ++ ds ++ [0 ≤ n, n < len], v)
          | none => none
        | none => none
      | _ => none
    | some (cs, .str s), some (ds, .int _ n) => match P.underlying t with
      | some .string => match s[n.toNat]? with
        | some b => some (cs ++ ds ++ [0 ≤ n], .int .u8 b.toNat)
        | none => none
      | _ => none
    | _, _ => none
  | _ => none

/-- The operations that make memory: the new block is known as the i-th. -/
def fresh1 (P : Program) (sl : Slots) (i : Nat) : Op → Option (List Prop × SV × SO)
  | .alloc t => match zeroCellsIn P t with
    | some z => forceL z fun z => some ([], .ptr i 0, .cells z t)
    | none => none
  | .box t x => match evs sl x with
    | some (cs, v) => bif v.cells.all storable then forceL v.cells fun l => some (cs, .ptr i 0, .cells l t) else none
    | none => none
  | .buildSlice t len parts => match P.underlying t, evParts sl parts.toList with
    | some (.slice el), some (cs, l) => match sizeIn P el, zeroCellsIn P el with
      | some sz, some z => natF sz fun sz => bif Nat.beq z.length sz && Nat.ble (len * sz + len) 2048 then
          match sfill (fun i => some (i * sz, sz)) ((List.replicate len z).flatten) l with
          | some r => forceL r fun r => some (cs, .sq i 0 0 sz len .own, .cells r el)
          | none => none
        else none
      | _, _ => none
    | _, _ => none
  | .makeMap t none => match mapIn P t with
    | some (q, _, some r) => some ([], .mp i, .map q (fun _ => false) (.ints r fun _ => 0))
    | some (q, _, none) => some ([], .mp i, .map q (fun _ => false) (.any fun _ => .und))
    | none => some ([], .mp i, .obj (.map #[] 0))
  | .makeSlice t len cap => match P.underlying t with
    | some (.slice el) => match P.info? el with
      | some inf => match zeroCellsIn P el, evs sl len, evs sl cap with
        | some z, some (cs, .int _ n), some (ds, .int _ c) => bif Nat.beq z.length inf.size && Nat.ble 1 inf.size then
            natF inf.size fun sz => natF inf.bytes fun by_ => some (cs ++ ds ++ [0 ≤ n, n = c, n ≤ 9223372036854775807, (by_ : Int) * n ≤ 281474976710656], .sq i 0 0 sz n.toNat .own, .row 0 n.toNat n.toNat sz (fun _ k => z.getD k .und) el)
          else none
        | _, _, _ => none
      | none => none
    | _ => none
  | _ => none
/-- A map with v at the key n. -/
def mputO (q : IntKind) (n : Int) (v : SV) : SO → Option SO
  | .map q' h (.ints r f) => match v with
    | .int r' y => bif keq q q' && keq r r' then some (.map q (fun a => ieq a n || h a) (.ints r fun a => bif ieq a n then y else f a)) else none
    | _ => none
  | .map q' h (.any e) => bif keq q q' then some (.map q (fun a => ieq a n || h a) (.any fun a => bif ieq a n then v else e a)) else none
  | .map q' h (.vals V) => match v with
    | .val u => bif keq q q' then some (.map q (fun a => ieq a n || h a) (.vals fun a => bif ieq a n then u else V a)) else none
    | _ => none
  | .map q' h (.recs r f V) => match v with
    | .agg [.int r' y, .val u] => bif keq q q' && keq r r' then some (.map q (fun a => ieq a n || h a) (.recs r (fun a => bif ieq a n then y else f a) fun a => bif ieq a n then u else V a)) else none
    | _ => none
  | _ => none
/-- The key, the value, the map's name. -/
def mputOp (P : Program) (sl : Slots) (t : TypeId) (m k x : Operand) : Option (List Prop × Nat × IntKind × Int × SV) :=
  match evs sl m, evs sl k, evs sl x, mapIn P t with
  | some (cs, .mp i), some (ds, .int q n), some (es, v), some (q', _, _) => bif keq q q' then some (cs ++ ds ++ es, i, q, n, v) else none
  | _, _, _, _ => none
def mput1 (P : Program) (sl : Slots) (hp : Hp) (t : TypeId) (m k x : Operand) : Option (List Prop × Nat × SO) :=
  match mputOp P sl t m k x with
  | some (cs, i, q, n, v) => match hget i hp with
    | some o => match v.force fun v => mputO q n v o with
      | some so => some (cs, i, so)
      | none => none
    | none => none
  | none => none
/-- The operations that write memory. -/
def store1 (P : Program) (sl : Slots) (hp : Hp) : Op → Option (List Prop × Nat × SO)
  | .store t a x => match evs sl a, evs sl x with
    | some (cs, a), some (ds, v) => match store P hp t a v with
      | some (es, i, so) => some (cs ++ ds ++ es, i, so)
      | none => none
    | _, _ => none
  | .mapUpdate t m k x => mput1 P sl hp t m k x
  | .insert t m k x => mput1 P sl hp t m k x
  | _ => none
def loud (P : Program) (sl : Slots) (hp ro : Hp) (nx : Nat) (op : Op) : Option Res :=
  match fresh1 P sl nx op with
  | some (cs, v, so) => some ⟨some v, (nx, so) :: hp, nx + 1, cs⟩
  | none => match store1 P sl hp op with
    | some (cs, i, so) => match hset i so hp with
      | some hp' => some ⟨none, hp', nx, cs⟩
      | none => none
    | none => match appOp P sl hp ro op with
      | some (cs, ⟨ks, n, m, sz, f, e⟩) => hdrop ks hp fun r => some ⟨some (.sq nx 0 0 sz (n + m) .own), (nx, .row 0 (n + m) (n + m) sz f e) :: r, nx + 1, cs⟩
      | none => none

/- What follows: they follow the model's. -/

theorem evList_rel {β : Env} {sl : Slots} {ρ : Operand → Value} (hr : Rho β sl ρ) : ∀ {xs : List Operand} {cs : List Prop} {l : List SV}, evList sl xs = some (cs, l) → All cs → RelL β l (xs.map ρ)
  | [], cs, l, h, hc => by simp only [evList, Option.some.injEq, Prod.mk.injEq] at h; obtain ⟨rfl, rfl⟩ := h; simp [RelL]
  | x :: r, cs, l, h, hc => by
    simp only [evList] at h
    split at h
    · rename_i e1 e2
      simp only [Option.some.injEq, Prod.mk.injEq] at h
      obtain ⟨rfl, rfl⟩ := h
      exact ⟨_, _, rfl, evs_rel hr e1 hc.left, evList_rel hr e2 hc.right⟩
    · cases h
def RelP (β : Env) : List (Nat × SV) → List (Nat × Value) → Prop
  | [], us => us = []
  | (i, s) :: ss, us => ∃ v vs, us = (i, v) :: vs ∧ Rel β s v ∧ RelP β ss vs
theorem evParts_rel {β : Env} {sl : Slots} {ρ : Operand → Value} (hr : Rho β sl ρ) : ∀ {xs : List (Nat × Operand)} {cs : List Prop} {l : List (Nat × SV)}, evParts sl xs = some (cs, l) → All cs →
    RelP β l (xs.map fun (i, x) => (i, ρ x))
  | [], cs, l, h, hc => by simp only [evParts, Option.some.injEq, Prod.mk.injEq] at h; obtain ⟨rfl, rfl⟩ := h; simp [RelP]
  | (i, x) :: r, cs, l, h, hc => by
    simp only [evParts] at h
    split at h
    · rename_i e1 e2
      simp only [Option.some.injEq, Prod.mk.injEq] at h
      obtain ⟨rfl, rfl⟩ := h
      exact ⟨_, _, rfl, evs_rel hr e1 hc.left, evParts_rel hr e2 hc.right⟩
    · cases h

theorem foldl_set : ∀ (vs : List Value) (off j : Nat) (cells : Array Value), off + j + vs.length ≤ cells.size →
    ((vs.zipIdx j).foldl (fun cs (c, j) => cs.setIfInBounds (off + j) c) cells).toList = cells.toList.take (off + j) ++ vs ++ cells.toList.drop (off + j + vs.length)
  | [], off, j, cells, h => by simp
  | v :: vs, off, j, cells, h => by
    simp only [List.zipIdx_cons, List.foldl_cons]
    rw [foldl_set vs off (j + 1) _ (by simp at h ⊢; omega)]
    simp only [Array.toList_setIfInBounds]
    simp at h
    apply List.ext_getElem?
    intro n
    simp only [List.getElem?_append, List.length_append, List.length_take, List.length_set, List.getElem?_take, List.getElem?_drop, List.getElem?_set, Array.length_toList, List.length_cons]
    have e1 : min (off + (j + 1)) cells.size = off + j + 1 := by omega
    have e2 : min (off + j) cells.size = off + j := by omega
    rw [e1, e2]
    by_cases h1 : n < off + j
    · rw [if_pos (by omega), if_pos (by omega), if_pos (by omega), if_neg (by omega), if_pos (by omega), if_pos (by omega), if_pos (by omega)]
    · by_cases h2 : n = off + j
      · subst h2
        rw [if_pos (by omega), if_pos (by omega), if_pos (by omega), if_pos rfl, if_pos (by simpa using (by omega : off + j < cells.size)), if_pos (by omega), if_neg (by omega)]
        simp
      · by_cases h3 : n < off + j + 1 + vs.length
        · rw [if_pos (by omega), if_neg (by omega), if_pos (by omega), if_neg (by omega)]
          rw [show n - (off + j) = (n - (off + j + 1)) + 1 by omega, List.getElem?_cons_succ]
        · rw [if_neg (by omega), if_neg (by omega), if_neg (by omega)]
          congr 1
          omega

theorem sfill_len {place : Nat → Option (Nat × Nat)} : ∀ {parts : List (Nat × SV)} {cells r : List SV}, sfill place cells parts = some r → r.length = cells.length
  | [], cells, r, h => by injection h with h; subst h; rfl
  | (i, v) :: rest, cells, r, h => by
    simp only [sfill] at h
    split at h
    · rename_i off size hpl
      cases hb : (Nat.beq v.cells.length size && v.cells.all storable) with
      | false => rw [hb] at h; cases h
      | true =>
        rw [hb] at h
        simp only [cond_true] at h
        split at h
        · rename_i r' hset
          obtain ⟨rfl, hle⟩ := setAt_spec hset
          rw [sfill_len h]
          simp; omega
        · cases h
    · cases h
theorem sfill_rel {β : Env} {place : Nat → Option (Nat × Nat)} : ∀ {parts : List (Nat × SV)} {cells r : List SV}, sfill place cells parts = some r → ∀ {us : List Value}, RelL β cells us → ∀ {ps : List (Nat × Value)}, RelP β parts ps →
    ∃ c : Array Value, Instr.fill place us.toArray ps = some c ∧ RelL β r c.toList
  | [], cells, r, h, us, hu, ps, hp => by
    simp only [RelP] at hp; subst hp
    injection h with h; subst h
    exact ⟨us.toArray, rfl, by simpa using hu⟩
  | (i, v) :: rest, cells, r, h, us, hu, ps, hp => by
    obtain ⟨x, xs, rfl, hx, hxs⟩ := hp
    simp only [sfill] at h
    split at h
    · rename_i off size hpl
      cases hb : (Nat.beq v.cells.length size && v.cells.all storable) with
      | false => rw [hb] at h; cases h
      | true =>
        rw [hb] at h
        simp only [cond_true] at h
        simp only [Bool.and_eq_true] at hb
        have hlen := beq_nat hb.1
        split at h
        · rename_i r' hset
          obtain ⟨rfl, hle⟩ := setAt_spec hset
          have hns : (∀ g y, v ≠ .cnd g y) ∧ v ≠ .und := by
            constructor
            · rintro g y rfl; simp [SV.cells, storable] at hb
            · rintro rfl; simp [SV.cells, storable] at hb
          have hcl := cells_rel hx hns.1 hns.2
          have hcs := hcl.length
          have hul := hu.length
          have hfold := foldl_set x.cells.toList off 0 us.toArray (by simp at hcs ⊢; omega)
          have hrel : RelL β (cells.take off ++ v.cells ++ cells.drop (off + v.cells.length)) ((x.cells.zipIdx.foldl (fun cs (c, j) => cs.setIfInBounds (off + j) c) us.toArray)).toList := by
            have e : (x.cells.zipIdx.foldl (fun cs (c, j) => cs.setIfInBounds (off + j) c) us.toArray) = ((x.cells.toList.zipIdx 0).foldl (fun cs (c, j) => cs.setIfInBounds (off + j) c) us.toArray) := by
              rw [← Array.foldl_toList, Array.toList_zipIdx]
            rw [e, hfold]
            simp only [Nat.add_zero, List.toList_toArray]
            rw [hcs]
            exact ((hu.take _).append hcl).append (hu.drop _)
          obtain ⟨c, hc1, hc2⟩ := sfill_rel h hrel hxs
          refine ⟨c, ?_, hc2⟩
          simp only [Instr.fill, hpl]
          rw [if_neg ?_]
          · simpa using hc1
          · simp at hcs ⊢; omega
        · cases h
    · cases h
end Sx
end
section
namespace Sx
open Go

theorem zero_run {P : Program} {t : TypeId} {z : List SV} (h : zeroCellsIn P t = some z) (β : Env) (w : World) : ∃ i v, P.info? t = some i ∧ i.zero = some v ∧ (zeroValue t).run P w = .ok v w ∧ RelL β z v.cells.toList := by
  unfold zeroCellsIn at h
  split at h
  · rename_i zz hzz
    cases hz : zz.cells.all storable with
    | false => rw [hz] at h; cases h
    | true =>
    rw [hz] at h
    injection h with h; subst h
    unfold zeroIn at hzz
    split at hzz
    · rename_i i hi
      split at hzz
      · rename_i v hv
        have hr := ofVal_rel β hzz
        refine ⟨i, v, hi, hv, by simp [zeroValue, typeInfo, hi, hv, Result.andThen], ?_⟩
        refine cells_rel hr ?_ ?_
        · rintro g y rfl; simp [SV.cells, storable] at hz
        · rintro rfl; simp [SV.cells, storable] at hz
      · cases hzz
    · cases hzz
  · cases h

theorem placesIn_spec {P : Program} : ∀ {fs : List Field} {l : List (Nat × Nat)}, placesIn P fs = some l → fs.mapM (fun f => (P.info? f.type).map fun i => (f.offset, i.size)) = some l
  | [], l, h => by injection h with h; subst h; rfl
  | f :: r, l, h => by
    simp only [placesIn] at h
    split at h
    · rename_i s l' h1 h2
      injection h with h; subst h
      have ih := placesIn_spec h2
      unfold sizeIn at h1
      split at h1
      · rename_i i hi
        injection h1 with h1; subst h1
        simp [List.mapM_cons, hi, ih]
      · cases h1
    · cases h

theorem buildV_run {P : Program} {β : Env} {w : World} {t : TypeId} {l : List (Nat × SV)} {r : List SV} (h : buildV P t l = some r) {ps : Array (Nat × Value)} (hp : RelP β l ps.toList) :
    ∃ c : Array Value, (Instr.build t ps).run P w = .ok (.agg c) w ∧ RelL β r c.toList := by
  unfold buildV at h
  split at h
  · rename_i n e hu
    split at h
    · rename_i z s hzz hs
      obtain ⟨i, v, hi, hv, _, hzr⟩ := zero_run hzz β w
      obtain ⟨c, hc1, hc2⟩ := sfill_rel h hzr hp
      refine ⟨c, run_build w t ps c ?_, hc2⟩
      unfold sizeIn at hs
      split at hs
      · rename_i ie hie
        injection hs with hs; subst hs
        simp only [Program.built, hi, hu, hv, hie]
        simpa using hc1
      · cases hs
    · cases h
  · rename_i fields hu
    split at h
    · rename_i z places hzz hpl
      obtain ⟨i, v, hi, hv, _, hzr⟩ := zero_run hzz β w
      obtain ⟨c, hc1, hc2⟩ := sfill_rel h hzr hp
      refine ⟨c, run_build w t ps c ?_, hc2⟩
      simp only [Program.built, hi, hu, hv, placesIn_spec hpl]
      simpa using hc1
    · cases h
  · cases h

theorem bound_run {P : Program} {w : World} {β : Env} {x : SV} {top d N : Nat} {cs : List Prop} (h : bound (some x) top d = some (cs, N)) (hc : All cs) {v : Value} (hr : Rel β x v) (code : BoundsCode) :
    (Instr.sliceBound v top code).run P w = .ok N w ∧ N ≤ top := by
  unfold bound at h
  split at h
  · rename_i e; cases e
  · rename_i k n e
    injection e with e; subst e
    simp only [Option.some.injEq, Prod.mk.injEq] at h
    obtain ⟨rfl, rfl⟩ := h
    simp only [Rel] at hr; subst hr
    have h0 : 0 ≤ n := hc.head
    have h1 : n ≤ top := hc.tail.head
    exact ⟨by simp [Instr.sliceBound, asIntOf, Result.andThen, h0, h1], by omega⟩
  · cases h

theorem bound_le {x : Option SV} {top d N : Nat} {cs : List Prop} (h : bound x top d = some (cs, N)) (hc : All cs) (hd : d ≤ top) : N ≤ top := by
  unfold bound at h
  split at h
  · simp only [Option.some.injEq, Prod.mk.injEq] at h; omega
  · simp only [Option.some.injEq, Prod.mk.injEq] at h
    obtain ⟨rfl, rfl⟩ := h
    have h0 := hc.head
    have h1 := hc.tail.head
    omega
  · cases h
def RelO (β : Env) : Option SV → Option Value → Prop
  | none, v => v = none
  | some s, v => ∃ u, v = some u ∧ Rel β s u
theorem evO_rel {β : Env} {sl : Slots} {ρ : Operand → Value} (hr : Rho β sl ρ) {x : Option Operand} {cs : List Prop} {l : Option SV} (h : evO sl x = some (cs, l)) (hc : All cs) : RelO β l (x.map ρ) := by
  unfold evO at h
  split at h
  · simp only [Option.some.injEq, Prod.mk.injEq] at h; obtain ⟨rfl, rfl⟩ := h; simp [RelO]
  · split at h
    · rename_i e1
      simp only [Option.some.injEq, Prod.mk.injEq] at h; obtain ⟨rfl, rfl⟩ := h
      exact ⟨_, rfl, evs_rel hr e1 hc⟩
    · cases h

theorem bounds_run {P : Program} {w : World} {β : Env} {lo hi mx : Option SV} {len cap M H L : Nat} {c1 c2 c3 : List Prop} (isS : Bool)
    (hm : bound mx cap cap = some (c1, M)) (hh : bound hi M len = some (c2, H)) (hl : bound lo H 0 = some (c3, L)) (h1 : All c1) (h2 : All c2) (h3 : All c3)
    (hk : (hi.isSome || mx.isNone) = true) (hlc : len ≤ cap) {vl vh vm : Option Value} (rl : RelO β lo vl) (rh : RelO β hi vh) (rm : RelO β mx vm) :
    (Instr.sliceBounds isS len cap vl vh vm).run P w = .ok (L, H, M) w ∧ L ≤ H ∧ H ≤ M ∧ M ≤ cap := by
  cases mx with
  | none =>
    simp only [RelO] at rm; subst rm
    simp only [bound, Option.some.injEq, Prod.mk.injEq] at hm
    obtain ⟨rfl, rfl⟩ := hm
    cases hi with
    | none =>
      simp only [RelO] at rh; subst rh
      simp only [bound, Option.some.injEq, Prod.mk.injEq] at hh
      obtain ⟨rfl, rfl⟩ := hh
      cases lo with
      | none =>
        simp only [RelO] at rl; subst rl
        simp only [bound, Option.some.injEq, Prod.mk.injEq] at hl
        obtain ⟨rfl, rfl⟩ := hl
        exact ⟨by simp [Instr.sliceBounds, Result.andThen], by omega, hlc, by omega⟩
      | some x =>
        obtain ⟨u, rfl, ru⟩ := rl
        obtain ⟨e, hle⟩ := bound_run (P := P) (w := w) hl h3 ru .sliceB
        exact ⟨by simp [Instr.sliceBounds, Result.andThen, e], by omega, hlc, by omega⟩
    | some y =>
      obtain ⟨u, rfl, ru⟩ := rh
      obtain ⟨e, hle⟩ := bound_run (P := P) (w := w) hh h2 ru (if isS then .sliceAcap else .sliceAlen)
      cases lo with
      | none =>
        simp only [RelO] at rl; subst rl
        simp only [bound, Option.some.injEq, Prod.mk.injEq] at hl
        obtain ⟨rfl, rfl⟩ := hl
        exact ⟨by simp [Instr.sliceBounds, Result.andThen, e], by omega, hle, by omega⟩
      | some x =>
        obtain ⟨u', rfl, ru'⟩ := rl
        obtain ⟨e', hle'⟩ := bound_run (P := P) (w := w) hl h3 ru' .sliceB
        exact ⟨by simp [Instr.sliceBounds, Result.andThen, e, e'], by omega, hle, by omega⟩
  | some z =>
    obtain ⟨u, rfl, ru⟩ := rm
    obtain ⟨e, hle⟩ := bound_run (P := P) (w := w) hm h1 ru (if isS then .slice3Acap else .slice3Alen)
    cases hi with
    | none => simp at hk
    | some y =>
      obtain ⟨u', rfl, ru'⟩ := rh
      obtain ⟨e', hle'⟩ := bound_run (P := P) (w := w) hh h2 ru' .slice3B
      cases lo with
      | none =>
        simp only [RelO] at rl; subst rl
        simp only [bound, Option.some.injEq, Prod.mk.injEq] at hl
        obtain ⟨rfl, rfl⟩ := hl
        exact ⟨by simp [Instr.sliceBounds, Result.andThen, e, e'], by omega, hle', by omega⟩
      | some x =>
        obtain ⟨u'', rfl, ru''⟩ := rl
        obtain ⟨e'', hle''⟩ := bound_run (P := P) (w := w) hl h3 ru'' .slice3C
        exact ⟨by simp [Instr.sliceBounds, Result.andThen, e, e', e''], by omega, hle', by omega⟩

/-- The lower bound as 'sliceV' takes it. -/
theorem low_bound {lo : Option SV} {H : Nat} {r : List Prop × SV} {c : List Prop} {f : SV} {g : Nat → SV}
    (h : (match lo with | none => some (c, f) | some (.int _ l) => some (c ++ [0 ≤ l, l ≤ (H : Int)], g l.toNat) | _ => none) = some r) :
    ∃ c3 L, bound lo H 0 = some (c3, L) ∧ (All r.1 → All c ∧ All c3) ∧ ((lo = none ∧ L = 0 ∧ r.2 = f) ∨ r.2 = g L) := by
  split at h
  · injection h with h; subst h; exact ⟨[], 0, rfl, fun hh => ⟨hh, All.nil⟩, .inl ⟨rfl, rfl, rfl⟩⟩
  · injection h with h; subst h; exact ⟨_, _, rfl, fun hh => ⟨hh.left, hh.right⟩, .inr rfl⟩
  · cases h

theorem bound_some {x : SV} {top d N : Nat} {cs : List Prop} (h : bound (some x) top d = some (cs, N)) : (∃ k n, x = .int k n ∧ cs = [0 ≤ n, n ≤ top] ∧ N = n.toNat) ∧ True := by
  unfold bound at h
  split at h
  · rename_i e; cases e
  · rename_i k n e
    injection e with e; subst e
    simp only [Option.some.injEq, Prod.mk.injEq] at h
    exact ⟨⟨k, n, rfl, h.1.symm, h.2.symm⟩, trivial⟩
  · cases h
theorem bound_le2 {x : SV} {top d N : Nat} {cs : List Prop} (h : bound (some x) top d = some (cs, N)) (hc : All cs) : N ≤ top := by
  obtain ⟨⟨k, n, rfl, rfl, rfl⟩, _⟩ := bound_some h
  have := hc.head
  have := hc.tail.head
  omega
theorem sliceV_run {P : Program} {w : World} {β : Env} {t : TypeId} {x s : SV} {lo hi mx : Option SV} {cs : List Prop} (h : sliceV P t x lo hi mx = some (cs, s)) (hc : All cs)
    {v : Value} {vl vh vm : Option Value} (hx : Rel β x v) (rl : RelO β lo vl) (rh : RelO β hi vh) (rm : RelO β mx vm) :
    ∃ u, (Instr.sliceAt t v vl vh vm).run P w = .ok u w ∧ Rel β s u := by
  unfold sliceV at h
  split at h
  · rename_i el i off s' sz len cap hu
    split at h
    · rename_i m hm
      cases hb : (Nat.beq m sz && (hi.isSome || mx.isNone)) with
      | false => rw [hb] at h; cases h
      | true =>
        rw [hb] at h
        simp only [cond_true] at h
        simp only [Bool.and_eq_true] at hb
        have e0 := beq_nat hb.1; subst e0
        split at h
        · rename_i c1 M e1
          split at h
          · rename_i c2 H e2
            obtain ⟨c3, L, e3, hcs, hres⟩ := low_bound (g := fun l => .sl i off (s' + l) m (H - l) (M - l)) h
            obtain ⟨b, o, hβ, room, rfl, hlc, hcr, ho⟩ := hx
            obtain ⟨h12, h3⟩ := hcs hc
            obtain ⟨M', c1', e1', hM', hMM, hMc⟩ : ∃ M' c1', bound mx room room = some (c1', M') ∧ All c1' ∧ M ≤ M' ∧ M ≤ cap := by
              cases mx with
              | none => simp only [bound, Option.some.injEq, Prod.mk.injEq] at e1; obtain ⟨_, rfl⟩ := e1; exact ⟨room, [], rfl, All.nil, hcr, Nat.le_refl _⟩
              | some y =>
                obtain ⟨q1, q2⟩ := bound_some e1
                obtain ⟨kk, x, rfl, rfl, rfl⟩ := q1
                have g1 := h12.left.head
                have g2 := h12.left.tail.head
                exact ⟨x.toNat, _, rfl, All.cons g1 (All.cons (by omega) All.nil), Nat.le_refl _, by omega⟩
            obtain ⟨H2, c2', e2', hH2, hHH⟩ : ∃ H2 c2', bound hi M' len = some (c2', H2) ∧ All c2' ∧ H2 = H := by
              cases hi with
              | none => simp only [bound, Option.some.injEq, Prod.mk.injEq] at e2; obtain ⟨_, rfl⟩ := e2; exact ⟨len, [], rfl, All.nil, rfl⟩
              | some y =>
                obtain ⟨q1, q2⟩ := bound_some e2
                obtain ⟨kk, x, rfl, rfl, rfl⟩ := q1
                have g1 := h12.right.head
                have g2 := h12.right.tail.head
                exact ⟨x.toNat, _, rfl, All.cons g1 (All.cons (by omega) All.nil), rfl⟩
            subst hHH
            have hHM : H2 ≤ M := by
              cases hi with
              | none =>
                simp only [bound, Option.some.injEq, Prod.mk.injEq] at e2; obtain ⟨_, rfl⟩ := e2
                have hmx : mx = none := by
                  cases mx with
                  | none => rfl
                  | some _ => simp at hb
                subst hmx
                simp only [bound, Option.some.injEq, Prod.mk.injEq] at e1; obtain ⟨_, rfl⟩ := e1
                exact hlc
              | some y => exact bound_le2 e2 h12.right
            obtain ⟨er, k1, k2, k3⟩ := bounds_run (P := P) (w := w) true e1' e2' e3 hM' hH2 h3 hb.2 (by omega) rl rh rm
            refine ⟨.slice (if M' = L then some ⟨b, o, none⟩ else some ⟨b, o + L * m, none⟩) (H2 - L) (M' - L), ?_, ?_⟩
            · simp only [Instr.sliceAt, Sem.run_bind, run_underlying hu, Result.andThen, Instr.slice, er, run_size hm, Sem.run_pure, Option.map_some, pt_add]
            · have main : Rel β (.sl i off (s' + L) m (H2 - L) (M - L)) (.slice (if M' = L then some ⟨b, o, none⟩ else some ⟨b, o + L * m, none⟩) (H2 - L) (M' - L)) := by
                refine ⟨b, if M' = L then o else o + L * m, hβ, M' - L, ?_, by omega, by omega, ?_⟩
                · split <;> rfl
                · intro hne
                  rw [if_neg (by omega), ho (by omega), Nat.add_mul]; omega
              rcases hres with ⟨_, rfl, hf⟩ | hg
              · simp only at hf; subst hf; simpa using main
              · simp only at hg; subst hg; exact main
          · cases h
        · cases h
    · cases h
  · rename_i el i off s' sz len ap hu
    split at h
    · rename_i m hm
      cases hb : (Nat.beq m sz && (hi.isSome || mx.isNone)) with
      | false => rw [hb] at h; cases h
      | true =>
        rw [hb] at h
        simp only [cond_true] at h
        simp only [Bool.and_eq_true] at hb
        have e0 := beq_nat hb.1; subst e0
        split at h
        · rename_i c2 H e2
          obtain ⟨base, room, rfl, g1, g2, g3, g4⟩ := hx
          have hlr : len ≤ room := by
            rcases Nat.eq_zero_or_pos len with q | q
            · omega
            · exact (g4 q).1
          have key : ∃ L c3 ap', s = .sq i off (s' + L) m (H - L) ap' ∧ bound lo H 0 = some (c3, L) ∧ All c2 ∧ All c3 ∧ ((mx = none ∧ ap' = .no) ∨ (∃ k x, mx = some (.int k x) ∧ x = (H : Int) ∧ ap' = .full)) := by
            split at h <;> first | exact (none_ne h).elim | skip
            all_goals
              simp only [Option.some.injEq, Prod.mk.injEq] at h
              obtain ⟨rfl, rfl⟩ := h
            · exact ⟨0, [], .no, by simp, rfl, hc, All.nil, .inl ⟨rfl, rfl⟩⟩
            · exact ⟨_, _, .no, rfl, rfl, hc.left, hc.right, .inl ⟨rfl, rfl⟩⟩
            · exact ⟨0, [], .full, by simp, rfl, hc.left, All.nil, .inr ⟨_, _, rfl, hc.right.head, rfl⟩⟩
            · exact ⟨_, _, .full, rfl, rfl, hc.left, hc.right.tail, .inr ⟨_, _, rfl, hc.right.head, rfl⟩⟩
          obtain ⟨L, c3, ap', rfl, e3, h2, h3, hap⟩ := key
          have hHl : H ≤ len := bound_le e2 h2 (Nat.le_refl _)
          have hLH : L ≤ H := bound_le e3 h3 (Nat.zero_le _)
          obtain ⟨M, c1, e1, h1, hHM, hMr, hMf⟩ : ∃ M c1, bound mx room room = some (c1, M) ∧ All c1 ∧ H ≤ M ∧ M ≤ room ∧ (ap' = .full → M = H) := by
            rcases hap with ⟨rfl, rfl⟩ | ⟨k, x, rfl, rfl, rfl⟩
            · exact ⟨room, [], rfl, All.nil, by omega, Nat.le_refl _, fun q => (by cases q)⟩
            · exact ⟨H, _, rfl, All.cons (by omega) (All.cons (by omega) All.nil), Nat.le_refl _, by omega, fun _ => rfl⟩
          obtain ⟨H2, c2', e2', hH2, hHH⟩ : ∃ H2 c2', bound hi M len = some (c2', H2) ∧ All c2' ∧ H2 = H := by
            cases hi with
            | none => simp only [bound, Option.some.injEq, Prod.mk.injEq] at e2; obtain ⟨_, rfl⟩ := e2; exact ⟨len, [], rfl, All.nil, rfl⟩
            | some y =>
              obtain ⟨q1, q2⟩ := bound_some e2
              obtain ⟨kk, x, rfl, rfl, rfl⟩ := q1
              have g1 := h2.head
              exact ⟨x.toNat, _, rfl, All.cons g1 (All.cons (by omega) All.nil), rfl⟩
          subst hHH
          obtain ⟨er, k1, k2, k3⟩ := bounds_run (P := P) (w := w) true e1 e2' e3 h1 hH2 h3 hb.2 hlr rl rh rm
          refine ⟨.slice (if M = L then base else base.map (·.add (L * m))) (H2 - L) (M - L), ?_, ?_⟩
          · simp only [Instr.sliceAt, Sem.run_bind, run_underlying hu, Result.andThen, Instr.slice, er, run_size hm, Sem.run_pure]
          · refine ⟨_, M - L, rfl, fun hn => ?_, fun hh => ?_, fun hh => ?_, fun hl => ?_⟩
            · have : base = none := by
                split at hn
                · exact hn
                · simpa using hn
              have := g1 this
              omega
            · subst hh
              rcases hap with ⟨_, q⟩ | ⟨_, _, _, _, q⟩ <;> cases q
            · have := hMf hh; omega
            · obtain ⟨g5, b, g6, g7, g8⟩ := g4 (by omega)
              refine ⟨by omega, b, g6, ?_, fun hh => ?_⟩
              · rw [if_neg (by omega), g7]
                simp only [Option.map_some, pt_add]
                rw [Nat.add_mul, Nat.add_assoc]
              · subst hh
                rcases hap with ⟨_, q⟩ | ⟨_, _, _, _, q⟩ <;> cases q
        · cases h
    · cases h
  · rename_i el hu
    split at h
    · rename_i m hm
      cases hb : (hi.isSome || mx.isNone) with
      | false => rw [hb] at h; cases h
      | true =>
        rw [hb] at h
        simp only [cond_true] at h
        split at h
        · rename_i c1 M e1
          split at h
          · rename_i c2 H e2
            split at h
            · rename_i c3 L e3
              simp only [Option.some.injEq, Prod.mk.injEq] at h
              obtain ⟨rfl, rfl⟩ := h
              simp only [Rel] at hx; subst hx
              have hM : M = 0 := by have := bound_le e1 hc.left.left (Nat.le_refl _); omega
              have hH : H = 0 := by have := bound_le e2 hc.left.right (by omega); omega
              subst hM hH
              obtain ⟨er, k1, k2, k3⟩ := bounds_run (P := P) (w := w) true e1 e2 e3 hc.left.left hc.left.right hc.right hb (Nat.le_refl _) rl rh rm
              refine ⟨.slice none 0 0, ?_, rfl⟩
              have hL : L = 0 := by omega
              subst hL
              simp [Instr.sliceAt, run_underlying hu, Result.andThen, Instr.slice, er, run_size hm]
            · cases h
          · cases h
        · cases h
    · cases h
  · rename_i n el i off hu
    split at h
    · rename_i m hm
      cases hb : (hi.isSome || mx.isNone) with
      | false => rw [hb] at h; cases h
      | true =>
        rw [hb] at h
        simp only [cond_true] at h
        split at h
        · rename_i c1 M e1
          split at h
          · rename_i c2 H e2
            obtain ⟨c3, L, e3, hcs, hres⟩ := low_bound (g := fun l => .sl i off l m (H - l) (M - l)) h
            obtain ⟨b, hβ, rfl⟩ := hx
            obtain ⟨h12, h3⟩ := hcs hc
            obtain ⟨er, k1, k2, k3⟩ := bounds_run (P := P) (w := w) false e1 e2 e3 h12.left h12.right h3 hb (Nat.le_refl _) rl rh rm
            refine ⟨.slice (some (if M = L then ⟨b, off, none⟩ else ⟨b, off + L * m, none⟩)) (H - L) (M - L), ?_, ?_⟩
            · simp only [Instr.sliceAt, Sem.run_bind, run_underlying hu, Result.andThen, Instr.sureAddr, er, run_size hm, Sem.run_pure, pt_add]
            · have main : Rel β (.sl i off L m (H - L) (M - L)) (.slice (some (if M = L then ⟨b, off, none⟩ else ⟨b, off + L * m, none⟩)) (H - L) (M - L)) := by
                refine ⟨b, if M = L then off else off + L * m, hβ, M - L, ?_, by omega, Nat.le_refl _, ?_⟩
                · split <;> rfl
                · intro hne
                  rw [if_neg (by omega)]
              rcases hres with ⟨_, rfl, hf⟩ | hg
              · simp only at hf; subst hf; simpa using main
              · simp only at hg; subst hg; exact main
          · cases h
        · cases h
    · cases h
  · cases h

theorem lenV_run {P : Program} {w : World} {β : Env} {t : TypeId} {x s : SV} (h : lenV P t x = some s) {v : Value} (hx : Rel β x v) (ty : TypeId) :
    ∃ u, (Builtin.len_ #[t] ty #[v]).run P w = .ok u w ∧ Rel β s u := by
  unfold lenV at h
  split at h <;> first | exact (none_ne h).elim | skip
  all_goals
    rename_i hu
    injection h with h; subst h
  · obtain ⟨b, o, _, _, rfl, _⟩ := hx
    exact ⟨_, by simp [Builtin.len_, run_underlying hu, Result.andThen]; rfl, rfl⟩
  · obtain ⟨base, room, rfl, _⟩ := hx
    exact ⟨_, by simp [Builtin.len_, run_underlying hu, Result.andThen]; rfl, rfl⟩
  · simp only [Rel] at hx; subst hx
    exact ⟨_, by simp [Builtin.len_, run_underlying hu, Result.andThen]; rfl, rfl⟩
  · exact ⟨_, by simp [Builtin.len_, run_underlying hu, Result.andThen]; rfl, rfl⟩
  · simp only [Rel] at hx; subst hx
    exact ⟨_, by simp [Builtin.len_, run_underlying hu, Result.andThen]; rfl, rfl⟩
  · simp only [Rel] at hx; subst hx
    exact ⟨_, by simp [Builtin.len_, run_underlying hu, Result.andThen]; rfl, rfl⟩

theorem minV_run {P : Program} {w : World} {β : Env} (mx : Bool) : ∀ {r : List SV} {x s : SV}, minV mx x r = some s → ∀ {v : Value} {vs : List Value}, Rel β x v → RelL β r vs →
    ∃ u, (vs.foldlM (if mx then Builtin.max2 else Builtin.min2) v).run P w = .ok u w ∧ Rel β s u
  | [], x, s, h, v, vs, hx, hr => by
    simp only [RelL] at hr; subst hr
    cases x <;> simp only [minV, Option.some.injEq, reduceCtorEq] at h
    subst h; exact ⟨v, by simp, hx⟩
  | y :: r, x, s, h, v, vs, hx, hr => by
    obtain ⟨u, us, rfl, hu, hl⟩ := hr
    cases x <;> try (simp [minV] at h; done)
    cases y <;> try (simp [minV] at h; done)
    rename_i k a k' b
    simp only [minV] at h
    cases hk : keq k k' with
    | false => rw [hk] at h; cases h
    | true =>
      rw [hk] at h
      simp only [cond_true] at h
      have e := keq_eq hk; subst e
      simp only [Rel] at hx hu; subst hx hu
      obtain ⟨q, hq, hrq⟩ := minV_run (P := P) (w := w) mx h (v := .int k (bif mx then max a b else min a b)) rfl hl
      refine ⟨q, ?_, hrq⟩
      have e2 : ((if mx then Builtin.max2 else Builtin.min2) (.int k a) (.int k b) : Sem Value).run P w = .ok (.int k (bif mx then max a b else min a b)) w := by
        cases mx
        · simp only [Bool.false_eq_true, if_false, Builtin.min2, cond_false, Sem.run_pure]
          congr 2
          split <;> omega
        · simp only [if_true, Builtin.max2, cond_true, Sem.run_pure]
          congr 2
          split <;> omega
      simp only [List.foldlM_cons, Sem.run_bind, e2, Result.andThen]
      exact hq

theorem eqIf1 {P : Program} {t : TypeId} {a : Array (String × TypeId)} (w : World) (d : Nat) (t' : TypeId) (u : Value) (hu : P.underlying t = some (.interface a)) : (Op.equalIn (d + 1) t (.iface t' u) .nilIface).run P w = .ok false w := by
  simp [Op.equalIn, run_underlying hu]
theorem eqIf2 {P : Program} {t : TypeId} {a : Array (String × TypeId)} (w : World) (d : Nat) (hu : P.underlying t = some (.interface a)) : (Op.equalIn (d + 1) t .nilIface .nilIface).run P w = .ok true w := by
  simp [Op.equalIn, run_underlying hu]
theorem eqSl1 {P : Program} {t a : TypeId} (w : World) (d : Nat) (hu : P.underlying t = some (.slice a)) : (Op.equalIn (d + 1) t (.slice none 0 0) (.slice none 0 0)).run P w = .ok true w := by
  simp [Op.equalIn, run_underlying hu]
theorem eqSl2 {P : Program} {t a : TypeId} (w : World) (d : Nat) (x : Addr) (l r : Nat) (hu : P.underlying t = some (.slice a)) : (Op.equalIn (d + 1) t (.slice (some x) l r) (.slice none 0 0)).run P w = .ok false w := by
  simp [Op.equalIn, run_underlying hu]
theorem eqBo1 {P : Program} {t : TypeId} (w : World) (d : Nat) (a b : Bool) (hu : P.underlying t = some .bool) : (Op.equalIn (d + 1) t (.bool a) (.bool b)).run P w = .ok (a == b) w := by
  simp [Op.equalIn, run_underlying hu]
theorem bin2_run {P : Program} {β : Env} {w : World} {op : BinOp} {x y : SV} {cs : List Prop} {s : SV} (t : TypeId) (xo yo : Operand)
    (h : bin2 P op t (isCst yo) x y = some (cs, s)) (hc : All cs) {a b : Value} (ha : Rel β x a) (hb : Rel β y b) :
    ∃ u, (do eqGuard op t xo yo a b; binOp op t a b : Sem Value).run P w = .ok u w ∧ Rel β s u := by
  unfold bin2 at h
  split at h <;> first | exact (nn_ne h).elim | skip
  · cases hyc : isCst yo with
    | false => rw [hyc] at h; cases h
    | true =>
    rw [hyc] at h; simp only [cond_true] at h
    split at h <;> first | exact (nn_ne h).elim | skip
    rename_i v e2
    simp only [Option.some.injEq, Prod.mk.injEq] at h
    obtain ⟨rfl, rfl⟩ := h
    obtain ⟨pa, hu⟩ : IsIf P t := hc.head
    have ha : a = .nilIface := ha
    have hb : b = .nilIface := hb
    subst ha hb
    refine eqVal e2 xo yo (fun op' => by cases op' <;> rfl) ?_ ?_
    · exact eqIf2 w 9999 hu
    · cases yo <;> simp [isCst] at hyc
      rcases eqOp_guard e2 with rfl | rfl <;> simp [eqGuard]
  · split at h <;> first | exact (nn_ne h).elim | skip
    rename_i v e2
    simp only [Option.some.injEq, Prod.mk.injEq] at h
    obtain ⟨rfl, rfl⟩ := h
    obtain ⟨pa, hu⟩ : IsIf P t := hc.head
    obtain ⟨u, rfl, _⟩ := ha
    have hb : b = .nilIface := hb
    subst hb
    refine eqVal e2 xo yo (fun op' => by cases op' <;> rfl) ?_ ?_
    · exact eqIf1 w 9999 _ _ hu
    · rcases eqOp_guard e2 with rfl | rfl <;> simp [eqGuard]
  · split at h <;> first | exact (nn_ne h).elim | skip
    rename_i v e2
    simp only [Option.some.injEq, Prod.mk.injEq] at h
    obtain ⟨rfl, rfl⟩ := h
    obtain ⟨pa, hu⟩ : IsSl P t := hc.head
    have ha : a = .slice none 0 0 := ha
    have hb : b = .slice none 0 0 := hb
    subst ha hb
    refine eqVal e2 xo yo (fun op' => by cases op' <;> rfl) ?_ ?_
    · exact eqSl1 w 9999 hu
    · rcases eqOp_guard e2 with rfl | rfl <;> simp [eqGuard]
  · split at h <;> first | exact (nn_ne h).elim | skip
    rename_i v e2
    simp only [Option.some.injEq, Prod.mk.injEq] at h
    obtain ⟨rfl, rfl⟩ := h
    obtain ⟨pa, hu⟩ : IsSl P t := hc.head
    obtain ⟨base, room, rfl, _, _, _, h4⟩ := ha
    obtain ⟨_, bl, _, rfl, _⟩ := h4 hc.tail.head
    have hb : b = .slice none 0 0 := hb
    subst hb
    refine eqVal e2 xo yo (fun op' => by cases op' <;> rfl) ?_ ?_
    · exact eqSl2 w 9999 _ _ _ hu
    · rcases eqOp_guard e2 with rfl | rfl <;> simp [eqGuard]
  · split at h <;> first | exact (nn_ne h).elim | skip
    rename_i v e2
    simp only [Option.some.injEq, Prod.mk.injEq] at h
    obtain ⟨rfl, rfl⟩ := h
    obtain ⟨pa, hu⟩ : IsPt P t := hc.head
    obtain ⟨bl, _, rfl⟩ := ha
    have hb : b = .pointer none := hb
    subst hb
    refine eqVal e2 xo yo (fun op' => by cases op' <;> rfl) ?_ ?_
    · exact eqPt1 w 9999 _ hu
    · rcases eqOp_guard e2 with rfl | rfl <;> simp [eqGuard]
  · split at h <;> first | exact (nn_ne h).elim | skip
    rename_i p q e0 e1
    split at h <;> first | exact (nn_ne h).elim | skip
    rename_i v e2
    simp only [Option.some.injEq, Prod.mk.injEq] at h
    obtain ⟨rfl, rfl⟩ := h
    have hu : P.underlying t = some .bool := hc.head
    have ha := tr_rel e0 ha
    have hb := tr_rel e1 hb
    subst ha hb
    refine eqVal e2 xo yo (fun op' => by cases op' <;> rfl) ?_ ?_
    · exact eqBo1 w 9999 _ _ hu
    · rcases eqOp_guard e2 with rfl | rfl <;> simp [eqGuard]

theorem quiet2_run {P : Program} {β : Env} {w : World} {sl : Slots} {ρ : Operand → Value} (hr : Rho β sl ρ)
    {o : Oper} {cs : List Prop} {s : SV} (h : quiet2 P sl o.op = some (cs, s)) (hc : All cs) : ∃ u, (execOp ρ o).run P w = .ok (.value u) w ∧ Rel β s u := by
  generalize hop : o.op = op at h
  unfold quiet2 at h
  split at h
  · rename_i fn fa fc
    split at h <;> first | exact (none_ne h).elim | skip
    rename_i e1 e2
    simp only [Option.some.injEq, Prod.mk.injEq] at h
    obtain ⟨rfl, rfl⟩ := h
    exact ⟨.func fn (fa.map ρ) (fc.map ρ), by simp only [execOp, hop, Instr.makeFunc]; rfl, (fa.map ρ).toList, (fc.map ρ).toList, rfl, by simpa using evList_rel hr e1 hc.left, by simpa using evList_rel hr e2 hc.right⟩
  · rename_i t parts
    split at h <;> first | exact (none_ne h).elim | skip
    rename_i e1
    split at h <;> first | exact (none_ne h).elim | skip
    rename_i e2
    simp only [Option.some.injEq, Prod.mk.injEq] at h
    obtain ⟨rfl, rfl⟩ := h
    obtain ⟨c, hc1, hc2⟩ := buildV_run (P := P) (w := w) e2 (ps := parts.map fun (i, x) => (i, ρ x)) (by simpa using evParts_rel hr e1 hc)
    exact ⟨.agg c, by simp only [execOp, hop, Sem.run_bind, hc1]; rfl, c.toList, by simp, hc2⟩
  · split at h <;> first | exact (none_ne h).elim | skip
    rename_i e0 e1 e2 e3
    split at h <;> first | exact (none_ne h).elim | skip
    rename_i e4
    simp only [Option.some.injEq, Prod.mk.injEq] at h
    obtain ⟨rfl, rfl⟩ := h
    obtain ⟨u, hu, hru⟩ := sliceV_run (P := P) (w := w) e4 hc.right (evs_rel hr e0 hc.left.left.left.left) (evO_rel hr e1 hc.left.left.left.right) (evO_rel hr e2 hc.left.left.right) (evO_rel hr e3 hc.left.right)
    exact ⟨u, by simp only [execOp, hop, Sem.run_bind, hu]; rfl, hru⟩
  · split at h <;> first | exact (none_ne h).elim | skip
    rename_i d hne hu e1
    simp only [Option.some.injEq, Prod.mk.injEq] at h
    obtain ⟨rfl, rfl⟩ := h
    refine ⟨_, ?_, _, rfl, evs_rel hr e1 hc⟩
    simp only [execOp, hop, Instr.makeInterface, Sem.run_bind, run_underlying hu, Result.andThen]
    cases d <;> first | rfl | exact (hne _ rfl).elim
  · rename_i x xt t
    split at h <;> first | exact (none_ne h).elim | skip
    rename_i d cs1 t' v hne hu e1
    rw [cond_eq_ite] at h
    split at h <;> first | exact (none_ne h).elim | skip
    rename_i hb
    have hb := beq_nat hb
    subst hb
    simp only [Option.some.injEq, Prod.mk.injEq] at h
    obtain ⟨rfl, rfl⟩ := h
    obtain ⟨u, hv, hru⟩ := evs_rel hr e1 hc
    refine ⟨u, ?_, hru⟩
    simp only [execOp, hop, Instr.typeAssert, Sem.run_bind, run_underlying hu, Result.andThen, hv]
    cases d <;> first | exact (hne _ rfl).elim | simp
  · rename_i x xt t
    split at h <;> first | exact (none_ne h).elim | skip
    rename_i d cs1 t' v hne hu e1
    rw [cond_eq_ite] at h
    split at h <;> first | exact (none_ne h).elim | skip
    rename_i hb
    have hb := beq_nat hb
    subst hb
    simp only [Option.some.injEq, Prod.mk.injEq] at h
    obtain ⟨rfl, rfl⟩ := h
    obtain ⟨u, hv, hru⟩ := evs_rel hr e1 hc
    refine ⟨.tuple #[u, .bool true], ?_, [u, .bool true], rfl, _, _, rfl, hru, _, _, rfl, rfl, rfl⟩
    simp only [execOp, hop, Instr.typeAssert, Sem.run_bind, run_underlying hu, Result.andThen, hv]
    cases d <;> first | exact (hne _ rfl).elim | simp
  · rename_i op t x y _
    split at h <;> first | exact (none_ne h).elim | skip
    rename_i cs1 a ds1 b e1 e2
    split at h <;> first | exact (none_ne h).elim | skip
    rename_i es v e3
    simp only [Option.some.injEq, Prod.mk.injEq] at h
    obtain ⟨rfl, rfl⟩ := h
    obtain ⟨u, hu, hru⟩ := bin2_run (P := P) (w := w) t x y e3 hc.right (evs_rel hr e1 hc.left.left) (evs_rel hr e2 hc.left.right)
    refine ⟨u, ?_, hru⟩
    simp only [Sem.run_bind] at hu
    simp only [execOp, hop, Sem.run_bind, hu]
    rfl
  · rename_i as ts
    split at h <;> first | exact (none_ne h).elim | skip
    rename_i t _ _ e0 e1
    split at h <;> first | exact (none_ne h).elim | skip
    rename_i e2
    simp only [Option.some.injEq, Prod.mk.injEq] at h
    obtain ⟨rfl, rfl⟩ := h
    have hl := evList_rel hr e1 hc
    obtain ⟨v, vs, ev, hv, hn⟩ := hl
    simp only [RelL] at hn; subst hn
    obtain ⟨u, hu, hru⟩ := lenV_run (P := P) (w := w) e2 hv o.type
    refine ⟨u, ?_, hru⟩
    have ets : ts = #[t] := by apply Array.ext'; simpa using e0
    have eas : as.map ρ = #[v] := by apply Array.ext'; simpa using ev
    simp only [execOp, hop, Sem.run_bind, resolve, Sem.run_pure, Result.andThen, invoke, builtin, ets, eas, hu]
  · rename_i as ts
    split at h <;> first | exact (none_ne h).elim | skip
    rename_i e1
    split at h <;> first | exact (none_ne h).elim | skip
    rename_i e2
    simp only [Option.some.injEq, Prod.mk.injEq] at h
    obtain ⟨rfl, rfl⟩ := h
    obtain ⟨v, vs, ev, hv, hn⟩ := evList_rel hr e1 hc
    obtain ⟨u, hu, hru⟩ := minV_run (P := P) (w := w) false e2 hv hn
    refine ⟨u, ?_, hru⟩
    have eas : (as.map ρ).toList = v :: vs := by simpa using ev
    simp only [Bool.false_eq_true, if_false] at hu
    simp only [execOp, hop, Sem.run_bind, resolve, Sem.run_pure, Result.andThen, invoke, builtin, Builtin.min_, eas, hu]
  · rename_i as ts
    split at h <;> first | exact (none_ne h).elim | skip
    rename_i e1
    split at h <;> first | exact (none_ne h).elim | skip
    rename_i e2
    simp only [Option.some.injEq, Prod.mk.injEq] at h
    obtain ⟨rfl, rfl⟩ := h
    obtain ⟨v, vs, ev, hv, hn⟩ := evList_rel hr e1 hc
    obtain ⟨u, hu, hru⟩ := minV_run (P := P) (w := w) true e2 hv hn
    refine ⟨u, ?_, hru⟩
    have eas : (as.map ρ).toList = v :: vs := by simpa using ev
    simp only [if_true] at hu
    simp only [execOp, hop, Sem.run_bind, resolve, Sem.run_pure, Result.andThen, invoke, builtin, Builtin.max_, eas, hu]
  · rename_i t x ix
    split at h <;> first | exact (none_ne h).elim | skip
    · rename_i cs1 l ds1 kk n e1 e2
      split at h <;> first | exact (none_ne h).elim | skip
      rename_i len el hu
      split at h <;> first | exact (none_ne h).elim | skip
      rename_i m hm
      split at h <;> first | exact (none_ne h).elim | skip
      rename_i v e3
      simp only [Option.some.injEq, Prod.mk.injEq] at h
      obtain ⟨rfl, rfl⟩ := h
      obtain ⟨us, hv, hl⟩ := evs_rel hr e1 hc.left.left
      have hx := evs_rel hr e2 hc.left.right
      have hx : ρ ix = .int kk n := hx
      have h0 : 0 ≤ n := hc.right.head
      have h1 : n < len := hc.right.tail.head
      obtain ⟨u, hu', hru⟩ := partOf_run (P := P) (w := w) e3 hl
      exact ⟨u, by simp [execOp, hop, hv, hx, Instr.index, asIntOf, run_underlying hu, Result.andThen, h0, h1, run_size hm, hu'], hru⟩
    · rename_i cs1 l ds1 kk n e1 e2
      split at h <;> first | exact (none_ne h).elim | skip
      rename_i hu
      split at h <;> first | exact (none_ne h).elim | skip
      rename_i b hb
      simp only [Option.some.injEq, Prod.mk.injEq] at h
      obtain ⟨rfl, rfl⟩ := h
      have hv : ρ x = .string l := evs_rel hr e1 hc.left.left
      have hx : ρ ix = .int kk n := evs_rel hr e2 hc.left.right
      have h0 : 0 ≤ n := hc.right.head
      exact ⟨.int .u8 b.toNat, by simp [execOp, hop, hv, hx, Instr.index, asIntOf, run_underlying hu, Result.andThen, h0, hb], rfl⟩
  · cases h

theorem replicate_rel {β : Env} {z : List SV} {v : List Value} (h : RelL β z v) : ∀ n, RelL β ((List.replicate n z).flatten) ((List.replicate n v).flatten)
  | 0 => by simp [RelL]
  | n + 1 => by simp only [List.replicate_succ, List.flatten_cons]; exact h.append (replicate_rel h n)
theorem flat_get (c : Array Value) (sz : Nat) (h : c.size = sz) : ∀ (n j : Nat), j < n * sz → ((List.replicate n c.toList).flatten)[j]? = c[j % sz]?
  | 0, j, hj => by omega
  | n + 1, j, hj => by
    simp only [List.replicate_succ, List.flatten_cons]
    by_cases h1 : j < sz
    · rw [List.getElem?_append_left (by simpa [h] using h1), Nat.mod_eq_of_lt h1]; simp
    · rw [List.getElem?_append_right (by simpa [h] using h1)]
      simp only [Array.length_toList, h]
      rw [flat_get c sz h n (j - sz) (by rw [Nat.add_mul] at hj; omega), ← Nat.mod_eq_sub_mod (by omega)]
theorem row_flat (c : Array Value) (n sz : Nat) (h : c.size = sz) : ((Array.range (n * sz)).map (c[· % c.size]!)) = ((List.replicate n c.toList).flatten).toArray := by
  apply Array.ext'
  simp only [Array.toList_map, Array.toList_range]
  apply List.ext_getElem?
  intro j
  have hlen : ((List.replicate n c.toList).flatten).length = n * sz := by simp [h]
  by_cases hj : j < n * sz
  · have hp : 0 < sz := by
      rcases Nat.eq_zero_or_pos sz with h0 | h0
      · rw [h0] at hj; omega
      · exact h0
    have hmod : j % sz < sz := Nat.mod_lt _ hp
    rw [List.getElem?_map, List.getElem?_range hj, Option.map_some, flat_get c sz h n j hj, h, getElem!_pos c (j % sz) (by omega), Array.getElem?_eq_getElem (by omega)]
  · rw [List.getElem?_eq_none (by simpa using hj), List.getElem?_eq_none (by rw [hlen]; omega)]

theorem fresh1_run {P : Program} {β : Env} {w : World} {sl : Slots} {ρ : Operand → Value} (hr : Rho β sl ρ) {i : Nat} {o : Oper} {cs : List Prop} {s : SV} {so : SO}
    (h : fresh1 P sl i o.op = some (cs, s, so)) (hc : All cs) :
    ∃ ob u, (execOp ρ o).run P w = .ok (.value u) (w.alloc ob) ∧ loose ob ∧ (∀ β' : Env, β.le β' → β' i = some w.heap.size → ORel β' so ob) ∧
      ∀ β' : Env, β.le β' → β' i = some w.heap.size → β'.room i = osize ob → Rel β' s u := by
  have hns : ∀ {v : SV}, v.cells.all storable = true → (∀ g y, v ≠ .cnd g y) ∧ v ≠ .und := by
    intro v hb
    constructor
    · rintro g y rfl; simp [SV.cells, storable] at hb
    · rintro rfl; simp [SV.cells, storable] at hb
  generalize hop : o.op = op at h
  unfold fresh1 at h
  split at h
  · rename_i t
    split at h <;> first | exact (none_ne h).elim | skip
    rename_i z hz
    simp only [forceL_eq, Option.some.injEq, Prod.mk.injEq] at h
    obtain ⟨rfl, rfl, rfl⟩ := h
    obtain ⟨_, v, _, _, hrun, hrel⟩ := zero_run hz β w
    refine ⟨.cells v.cells t (0, 0), .pointer (some ⟨w.heap.size, 0, none⟩), ?_, rfl, fun β' hle hi => ⟨v.cells.toList, by simp, RelL.mono hle _ _ hrel⟩, fun β' hle hi _ => ⟨w.heap.size, hi, rfl⟩⟩
    simp [execOp, hop, Instr.alloc, hrun, Result.andThen, newVar, newRow]
  · rename_i t x
    split at h <;> first | exact (none_ne h).elim | skip
    rename_i cs v e1
    cases hb : v.cells.all storable with
    | false => rw [hb] at h; cases h
    | true =>
      rw [hb] at h
      simp only [cond_true, forceL_eq, Option.some.injEq, Prod.mk.injEq] at h
      obtain ⟨rfl, rfl, rfl⟩ := h
      have hx := evs_rel hr e1 hc
      refine ⟨.cells (ρ x).cells t (0, 0), .pointer (some ⟨w.heap.size, 0, none⟩), ?_, rfl, fun β' hle hi => ⟨(ρ x).cells.toList, by simp, RelL.mono hle _ _ (cells_rel hx (hns hb).1 (hns hb).2)⟩, fun β' hle hi _ => ⟨w.heap.size, hi, rfl⟩⟩
      simp [execOp, hop, Instr.box, Result.andThen, newVar, newRow]
  · rename_i t len parts
    split at h <;> first | exact (none_ne h).elim | skip
    rename_i el cs l hu e1
    split at h <;> first | exact (none_ne h).elim | skip
    rename_i sz z hsz hz
    rw [natF_eq] at h
    cases hb : (Nat.beq z.length sz && Nat.ble (len * sz + len) 2048) with
    | false => rw [hb] at h; cases h
    | true =>
      rw [hb] at h
      simp only [cond_true] at h
      simp only [Bool.and_eq_true] at hb
      have hzl := beq_nat hb.1
      have hle1 := ble_nat hb.2
      split at h <;> first | exact (none_ne h).elim | skip
      rename_i r' e2
      simp only [forceL_eq, Option.some.injEq, Prod.mk.injEq] at h
      obtain ⟨rfl, rfl, rfl⟩ := h
      obtain ⟨_, v, hi, hv, hrun, hrel⟩ := zero_run hz β w
      have hvl : v.cells.size = sz := by have := hrel.length; simp at this; omega
      have hflat := replicate_rel hrel len
      obtain ⟨c, hc1, hc2⟩ := sfill_rel e2 hflat (ps := (parts.map fun (i, x) => (i, ρ x)).toList) (by simpa using evParts_rel hr e1 hc)
      have hrow := row_flat v.cells len sz hvl
      have hcl : c.size = len * sz := by
        have q1 := sfill_len e2
        have q2 := hc2.length
        simp [hzl] at q1 q2
        omega
      refine ⟨.cells c el (0, 0), .slice (some ⟨w.heap.size, 0, none⟩) len len, ?_, rfl, fun β' hle hi => ⟨c.toList, by simp, RelL.mono hle _ _ hc2⟩, fun β' hle hi hro => ⟨some ⟨w.heap.size, 0, none⟩, len, rfl, fun hh => (by simp at hh), fun _ => ⟨fun hh => hh, by omega⟩, fun _ => rfl, fun _ => ⟨Nat.le_refl _, w.heap.size, hi, by simp, fun _ => ?_⟩⟩⟩
      · have h1 : ¬ (len * sz > 2 ^ 24) := by omega
        by_cases h0 : len * sz = 0
        · have hl0 : (List.replicate len v.cells.toList).flatten = [] := by
            rw [List.eq_nil_iff_length_eq_zero]; simp [hvl, h0]
          rw [hl0] at hc1
          simp only [execOp, hop, Sem.run_bind, Instr.buildSlice, run_underlying hu, Result.andThen, run_size hsz, h0, if_true, Sem.run_pure]
          have hc1' : Instr.fill (fun i => some (i * sz, sz)) #[] (parts.map fun (i, x) => (i, ρ x)).toList = some c := hc1
          simp only [gt_iff_lt, Nat.not_lt_zero, if_false, Sem.run_bind, Sem.run_pure, Result.andThen, show Array.range 0 = (#[] : Array Nat) from rfl, Array.map_empty, hc1', newRow, run_newObj_alloc]
        · simp only [execOp, hop, Sem.run_bind, Instr.buildSlice, run_underlying hu, Result.andThen, run_size hsz, h0, h1, if_false, hrun, Sem.run_pure, hrow, hc1, newRow, run_newObj_alloc]
      · rw [hro]; show _ ≤ c.size; omega
  · rename_i t
    have hemp : ∀ β' q E, MRel β' q (fun _ => false) E #[] 0 := fun β' q E => ⟨MapKept.stamped_empty 0, fun x hx => by simp at hx, fun a ha => by cases ha⟩
    split at h
    all_goals
      simp only [Option.some.injEq, Prod.mk.injEq] at h
      obtain ⟨rfl, rfl, rfl⟩ := h
      refine ⟨.map #[] 0, .map (some w.heap.size), ?_, trivial, fun β' hle hi => ?_, fun β' hle hi _ => ⟨w.heap.size, hi, rfl⟩⟩
      · simp [execOp, hop, Instr.makeMap, Result.andThen]
      first | rfl | exact ⟨#[], 0, rfl, hemp _ _ _⟩
  · rename_i t len cap
    split at h <;> first | exact (none_ne h).elim | skip
    rename_i el hu
    split at h <;> first | exact (none_ne h).elim | skip
    rename_i inf hinf
    split at h <;> first | exact (none_ne h).elim | skip
    rename_i z cs1 k1 n cs2 k2 c hz e1 e2
    cases hb : (Nat.beq z.length inf.size && Nat.ble 1 inf.size) with
    | false => rw [hb] at h; cases h
    | true =>
    rw [hb] at h
    simp only [cond_true, natF_eq, Option.some.injEq, Prod.mk.injEq] at h
    obtain ⟨rfl, rfl, rfl⟩ := h
    simp only [Bool.and_eq_true] at hb
    have hzl := beq_nat hb.1
    have hsz := ble_nat hb.2
    obtain ⟨i', v, hi, hv, hrun, hrel⟩ := zero_run hz β w
    rw [hinf] at hi; injection hi with hi; subst hi
    have h0 : 0 ≤ n := hc.right.head
    have h1 : n = c := hc.right.tail.head
    have h2 : n ≤ 9223372036854775807 := hc.right.tail.tail.head
    have h3 : (inf.bytes : Int) * n ≤ 281474976710656 := hc.right.tail.tail.tail.head
    subst h1
    have x1 := evs_rel hr e1 hc.left.left
    have x2 := evs_rel hr e2 hc.left.right
    simp only [Rel] at x1 x2
    have hvl : v.cells.size = inf.size := by have := hrel.length; simp at this; omega
    have hm := run_make (P := P) w t el inf v hu hinf hv k1 k2 n n h0 (Int.le_refl _) h3 h2
    refine ⟨.cells (madeCells v.cells (n.toNat * inf.size)) el (0, 0), .slice (some ⟨w.heap.size, 0, none⟩) n.toNat n.toNat, ?_, rfl, fun β' hle hi => ?_, fun β' hle hi hro => ⟨some ⟨w.heap.size, 0, none⟩, n.toNat, rfl, fun hh => (by simp at hh), fun _ => ⟨fun hh => hh, by omega⟩, fun _ => rfl, fun _ => ⟨Nat.le_refl _, w.heap.size, hi, by simp, fun _ => ?_⟩⟩⟩
    · simp only [execOp, hop, Sem.run_bind, x1, x2, hm, Result.andThen, Sem.run_pure]
    · refine ⟨_, _, _, .inr rfl, rfl, Nat.le_refl _, by rw [size_madeCells]; omega, fun j k hj hk => ?_⟩
      have hlt : j * inf.size + k < n.toNat * inf.size := by
        have : (j + 1) * inf.size ≤ n.toNat * inf.size := Nat.mul_le_mul_right _ hj
        rw [Nat.add_mul] at this; omega
      have hg : z[k]? = some (z.getD k .und) := by
        rw [List.getD_eq_getElem?_getD, List.getElem?_eq_getElem (by omega)]; rfl
      obtain ⟨u, hu1, hu2⟩ := hrel.get hg
      refine ⟨u, ?_, Rel.mono hle _ _ hu2⟩
      unfold madeCells
      rw [Nat.zero_add, Array.getElem?_map, Array.getElem?_range, if_pos hlt]
      have hmod : (j * inf.size + k) % v.cells.size = k := by
        rw [hvl, Nat.mul_comm, Nat.mul_add_mod, Nat.mod_eq_of_lt hk]
      simp only [Option.map_some, hmod]
      rw [getElem!_pos v.cells k (by omega)]
      have : v.cells[k]? = some u := by simpa using hu1
      rw [Array.getElem?_eq_getElem (by omega)] at this
      exact this
    · rw [hro]; show _ ≤ Array.size _; rw [size_madeCells]; exact Nat.le_refl _
  · cases h

theorem mrel_put {β : Env} {q : IntKind} {h h' : Int → Bool} {E E' : MEl} {es : Array MapEntry} {c : Nat} (r : MRel β q h E es c) {n : Int} {v : SV} {u : Value} (hu : Rel β v u) (hh : ∀ a, h' a = (ieq a n || h a))
    (hE : ∀ a, E'.at a = if a = n then v else E.at a) :
    (∀ j e, es[j]? = some e → e.key = .int q n → MRel β q h' E' (es.modify j fun e => { e with key := .int q n, val := u }) c) ∧
      ((∀ x ∈ es.toList, x.key ≠ .int q n) → MRel β q h' E' (es.push { key := .int q n, val := u, born := c }) (c + 1)) := by
  have hn : h' n = true := by rw [hh]; simp [ieq]
  have hold : ∀ a, h a = true → h' a = true := fun a ha => by rw [hh, ha]; simp
  have hcase : ∀ a, h' a = true → a = n ∨ h a = true := fun a ha => by rw [hh] at ha; simpa [ieq] using ha
  constructor
  · intro j e hj hk
    refine ⟨MapKept.stamped_modify r.st _ _ (fun _ _ => rfl) (fun e' _ he' => by rw [hj] at he'; injection he' with he'; subst he'; exact hk.symm), fun x hx => ?_, fun a ha => ?_⟩
    · obtain ⟨i, hi⟩ := List.getElem?_of_mem hx
      simp only [Array.getElem?_toList, Array.getElem?_modify] at hi
      by_cases hij : j = i
      · subst hij
        rw [if_pos rfl, hj] at hi
        injection hi with hi; subst hi
        exact ⟨n, rfl, hn, by rw [hE, if_pos rfl]; exact hu⟩
      · rw [if_neg hij] at hi
        obtain ⟨a, h1, h2, h3⟩ := r.ent x (Array.mem_toList_iff.2 (Array.mem_of_getElem? hi))
        have hne : a ≠ n := by
          intro e1; subst e1
          have hnd := r.st.2.2
          have q1 : (es.toList.map (·.key))[j]? = some (.int q a) := by simp [hj, hk]
          have q2 : (es.toList.map (·.key))[i]? = some (.int q a) := by simp [hi, h1]
          have l1 := (List.getElem?_eq_some_iff.1 q1).1
          have := (List.getElem?_inj l1 hnd).1 (q1.trans q2.symm)
          exact hij this
        exact ⟨a, h1, hold a h2, by rw [hE, if_neg hne]; exact h3⟩
    · by_cases e1 : a = n
      · subst e1
        refine ⟨{ e with key := .int q a, val := u }, List.mem_of_getElem? (i := j) ?_, rfl⟩
        simp [Array.getElem?_modify, hj]
      · obtain ⟨x, hx, hxk⟩ := r.has a ((hcase a ha).resolve_left e1)
        obtain ⟨i, hi⟩ := List.getElem?_of_mem hx
        have hij : j ≠ i := by
          intro e2; subst e2
          simp only [Array.getElem?_toList] at hi
          rw [hj] at hi; injection hi with hi; subst hi
          rw [hk] at hxk; injection hxk with _ hxk; exact e1 hxk.symm
        refine ⟨x, List.mem_of_getElem? (i := i) ?_, hxk⟩
        simp only [Array.getElem?_toList, Array.getElem?_modify] at hi ⊢
        rw [if_neg hij]; exact hi
  · intro hno
    refine ⟨MapKept.stamped_push r.st hno, fun x hx => ?_, fun a ha => ?_⟩
    · simp only [Array.toList_push, List.mem_append, List.mem_singleton] at hx
      rcases hx with hx | rfl
      · obtain ⟨a, h1, h2, h3⟩ := r.ent x hx
        have hne : a ≠ n := by intro e1; subst e1; exact hno x hx h1
        exact ⟨a, h1, hold a h2, by rw [hE, if_neg hne]; exact h3⟩
      · exact ⟨n, rfl, hn, by rw [hE, if_pos rfl]; exact hu⟩
    · simp only [Array.toList_push, List.mem_append, List.mem_singleton]
      by_cases e1 : a = n
      · subst e1; exact ⟨_, .inr rfl, rfl⟩
      · obtain ⟨x, hx, hxk⟩ := r.has a ((hcase a ha).resolve_left e1)
        exact ⟨x, .inl hx, hxk⟩
theorem mputO_spec {q : IntKind} {n : Int} {v : SV} {o so : SO} (h : mputO q n v o = some so) : ∃ k E k' E', o = .map q k E ∧ so = .map q k' E' ∧ (∀ a, k' a = (ieq a n || k a)) ∧ ∀ a, E'.at a = if a = n then v else E.at a := by
  unfold mputO at h
  split at h <;> first | exact (none_ne h).elim | skip
  · split at h <;> first | exact (none_ne h).elim | skip
    obtain ⟨h1, rfl⟩ := bif_some h
    rw [Bool.and_eq_true] at h1
    have := keq_eq h1.1; subst this
    have := keq_eq h1.2; subst this
    refine ⟨_, _, _, _, rfl, rfl, fun a => rfl, fun a => ?_⟩
    simp only [MEl.at, ieq]
    by_cases e : a = n <;> simp [e]
  · obtain ⟨h1, rfl⟩ := bif_some h
    have := keq_eq h1; subst this
    refine ⟨_, _, _, _, rfl, rfl, fun a => rfl, fun a => ?_⟩
    simp only [MEl.at, ieq]
    by_cases e : a = n <;> simp [e]
  · split at h <;> first | exact (none_ne h).elim | skip
    obtain ⟨h1, rfl⟩ := bif_some h
    have := keq_eq h1; subst this
    refine ⟨_, _, _, _, rfl, rfl, fun a => rfl, fun a => ?_⟩
    simp only [MEl.at, ieq]
    by_cases e : a = n <;> simp [e]
  · split at h <;> first | exact (none_ne h).elim | skip
    obtain ⟨h1, rfl⟩ := bif_some h
    rw [Bool.and_eq_true] at h1
    have := keq_eq h1.1; subst this
    have := keq_eq h1.2; subst this
    refine ⟨_, _, _, _, rfl, rfl, fun a => rfl, fun a => ?_⟩
    simp only [MEl.at, ieq]
    by_cases e : a = n <;> simp [e]
theorem mputOp_rel {P : Program} {β : Env} {sl : Slots} {ρ : Operand → Value} (hr : Rho β sl ρ) {t : TypeId} {m k x : Operand} {cs : List Prop} {i : Nat} {q : IntKind} {n : Int} {v : SV} (h : mputOp P sl t m k x = some (cs, i, q, n, v)) (hc : All cs) :
    (∃ kt et, P.underlying t = some (.map kt et) ∧ P.underlying kt = some (.int q)) ∧ (∃ b, β i = some b ∧ ρ m = .map (some b)) ∧ ρ k = .int q n ∧ Rel β v (ρ x) := by
  unfold mputOp at h
  split at h <;> first | exact (none_ne h).elim | skip
  rename_i c1 i1 c2 q1 n1 c3 v1 q2 et rr e1 e2 e3 e4
  obtain ⟨h1, h2⟩ := bif_some h
  have := keq_eq h1; subst this
  simp only [Prod.mk.injEq] at h2
  obtain ⟨rfl, rfl, rfl, rfl, rfl⟩ := h2
  obtain ⟨kt, g1, g2⟩ := mapIn_spec e4
  exact ⟨⟨kt, et, g1, g2⟩, evs_rel hr e1 hc.left.left, evs_rel hr e2 hc.left.right, evs_rel hr e3 hc.right⟩
/-- The map is written. -/
theorem put_run {P : Program} {β : Env} {w : World} {t kt et : TypeId} {q : IntKind} (hu : P.underlying t = some (.map kt et)) (hk : P.underlying kt = some (.int q)) {b : Nat} {es : Array MapEntry} {c : Nat} {h h' : Int → Bool} {E E' : MEl}
    (hb : w.heap[b]? = some (.map es c)) (r : MRel β q h E es c) {n : Int} {v : SV} {u : Value} (hv : Rel β v u) (hh : ∀ a, h' a = (ieq a n || h a)) (hE : ∀ a, E'.at a = if a = n then v else E.at a) :
    ∃ es' c', (Instr.mapUpdate t (.map (some b)) (.int q n) u).run P w = .ok () { w with heap := w.heap.setIfInBounds b (.map es' c') } ∧ MRel β q h' E' es' c' := by
  obtain ⟨a, g1, g2, g3⟩ := find_run (P := P) (w := w) hk r n
  obtain ⟨p1, p2⟩ := mrel_put r hv hh hE
  cases hn : h n with
  | true =>
    obtain ⟨j, e, rfl, hj, hkey, _⟩ := g2 hn
    refine ⟨_, _, ?_, p1 j e hj hkey⟩
    simp [Instr.mapUpdate, run_underlying hu, MapKept.run_getObj_map hb, MapKept.run_checkKey (k := .int q n) hk rfl, g1, hj, hkey, MapKept.run_keyThatStays (d := .int q) (k := .int q n) rfl, MapKept.run_setObj_map _ hb, Result.andThen]
  | false =>
    obtain ⟨rfl, hno⟩ := g3 hn
    refine ⟨_, _, ?_, p2 hno⟩
    simp [Instr.mapUpdate, run_underlying hu, MapKept.run_getObj_map hb, MapKept.run_checkKey (k := .int q n) hk rfl, g1, MapKept.run_setObj_map _ hb, Result.andThen]
theorem mput1_run {P : Program} {β : Env} {hp ro : Hp} {B : Base} {w : World} {sl : Slots} {ρ : Operand → Value} (hs : Mem β hp ro B w) (hr : Rho β sl ρ) {t : TypeId} {m k x : Operand} {i : Nat} {cs : List Prop} {so : SO}
    (h : mput1 P sl hp t m k x = some (cs, i, so)) (hc : All cs) : ∃ w' o', (Instr.mapUpdate t (ρ m) (ρ k) (ρ x)).run P w = .ok () w' ∧ (hget i hp = some o' ∧ o'.Live) ∧ Wrote β i so w w' := by
  unfold mput1 at h
  split at h <;> first | exact (none_ne h).elim | skip
  rename_i cs' i' q n v e1
  split at h <;> first | exact (none_ne h).elim | skip
  rename_i o ho
  rw [SV.force_eq] at h
  split at h <;> first | exact (none_ne h).elim | skip
  rename_i so' e2
  simp only [Option.some.injEq, Prod.mk.injEq] at h
  obtain ⟨rfl, rfl, rfl⟩ := h
  obtain ⟨⟨kt, et, hu, hk⟩, ⟨b, hβ, em⟩, ek, hv⟩ := mputOp_rel hr e1 hc
  obtain ⟨k, E, k', E', rfl, rfl, hh, hE⟩ := mputO_spec e2
  obtain ⟨b', ob, k1, k2, k3, k4, k5⟩ := hs.own _ _ ho trivial
  rw [hβ] at k1; injection k1 with k1; subst k1
  obtain ⟨es, c, rfl, r⟩ := k4
  obtain ⟨es', c', g1, g2⟩ := put_run (P := P) hu hk k3 r hv hh hE
  have hlt : b < w.heap.size := (Array.getElem?_eq_some_iff.1 k3).1
  refine ⟨{ w with heap := w.heap.setIfInBounds b (.map es' c') }, _, by rw [em, ek]; exact g1, ⟨ho, trivial⟩, ⟨b, .map es' c', hβ, by simp [hlt], ⟨es', c', rfl, g2⟩, ⟨trivial, k5.s⟩, fun j hj => ?_⟩, by simp, rfl, rfl, rfl⟩
  simp [Ne.symm hj]
theorem store1_run {P : Program} {β : Env} {hp ro : Hp} {B : Base} {w : World} {sl : Slots} {ρ : Operand → Value} (hs : Mem β hp ro B w) (hr : Rho β sl ρ) {i : Nat} {o : Oper} {cs : List Prop} {so : SO}
    (h : store1 P sl hp o.op = some (cs, i, so)) (hc : All cs) : ∃ w' o', (execOp ρ o).run P w = .ok .skip w' ∧ (hget i hp = some o' ∧ o'.Live) ∧ Wrote β i so w w' := by
  generalize hop : o.op = op at h
  unfold store1 at h
  split at h
  · rename_i t a x
    split at h <;> first | exact (none_ne h).elim | skip
    rename_i cs a' ds v e1 e2
    split at h <;> first | exact (none_ne h).elim | skip
    rename_i es i' so' e3
    simp only [Option.some.injEq, Prod.mk.injEq] at h
    obtain ⟨rfl, rfl, rfl⟩ := h
    obtain ⟨w', o', hw, hm, hwr⟩ := store_run (P := P) hs e3 hc.right (evs_rel hr e1 hc.left.left) (evs_rel hr e2 hc.left.right)
    exact ⟨w', o', by simp only [execOp, hop, Sem.run_bind, hw]; rfl, hm, hwr⟩
  · rename_i t m k x
    obtain ⟨w', o', g1, g2, g3⟩ := mput1_run (P := P) hs hr h hc
    exact ⟨w', o', by simp only [execOp, hop, Sem.run_bind, g1]; rfl, g2, g3⟩
  · rename_i t m k x
    obtain ⟨w', o', g1, g2, g3⟩ := mput1_run (P := P) hs hr h hc
    exact ⟨w', o', by simp only [execOp, hop, Sem.run_bind, g1]; rfl, g2, g3⟩
  · cases h

theorem loud_run {P : Program} {β : Env} {hp ro : Hp} {B : Base} {nx : Nat} {w : World} {sl : Slots} {ρ : Operand → Value} (hs : Sat β hp ro B nx w) (hB : ∀ b o, B.D b = some o → b < B.w.heap.size) (hr : Rho β sl ρ)
    {o : Oper} {r : Res} (h : loud P sl hp ro nx o.op = some r) (hc : All r.cs) :
    ∃ β' w', β.le β' ∧ Sat β' r.hp ro B r.nx w' ∧ match r.v with
      | some s => ∃ u, (execOp ρ o).run P w = .ok (.value u) w' ∧ Rel β' s u
      | none => (execOp ρ o).run P w = .ok .skip w' := by
  unfold loud at h
  split at h
  · rename_i cs v so e1
    injection h with h; subst h
    obtain ⟨ob, u, hrun, hl, hor, hrel⟩ := fresh1_run (w := w) hr e1 hc
    obtain ⟨β', hle, hnx, hro, hs'⟩ := hs.new so ob hB hor hl
    exact ⟨β', _, hle, hs', u, hrun, hrel β' hle hnx hro⟩
  · split at h
    · rename_i cs i so e1
      split at h <;> first | exact (none_ne h).elim | skip
      rename_i hp' e2
      injection h with h; subst h
      obtain ⟨w', o', hrun, hm, hwr⟩ := store1_run (P := P) hs.toMem hr e1 hc
      exact ⟨β, w', Env.le_refl _, ⟨hs.toMem.wrote hm e2 hwr, hs.fresh⟩, hrun⟩
    · split at h <;> first | exact (none_ne h).elim | skip
      rename_i cs ks n m sz f e e1
      rw [hdrop_eq] at h
      injection h with h; subst h
      obtain ⟨β', w', v, h1, h2, h3, h4⟩ := app_run hs hB hr e1 hc
      exact ⟨β', w', h1, h2, v, h4, h3⟩
end Sx
end
section
namespace Sx
open Go

/-- Which callees are known by what they give, without entering them. -/
abbrev Sum := Nat → List SV → Option (List Prop × SV)
structure Mode where
  st : Bool
  unr : Bool
  inl : Nat → Bool
  sum : Sum
  keep : Nat → Option (List Nat)

/-- Forgets the slots that no later region asks for. -/
def thin (k : List Nat) : Slots → Option Slots
  | [] => some []
  | (i, v) :: r => match thin k r with
    | some r' => bif hasN i k then some ((i, v) :: r') else some r'
    | none => none

def exitS (id : Nat) : List SI → Option (List SI)
  | [] => none
  | .blk j :: k => bif Nat.beq j id then some k else exitS id k
  | _ :: k => exitS id k

def put (dst : Option Tmp) (v : SV) (n : Nat) (sl : Slots) : Option Slots :=
  match dst with
  | none => some sl
  | some d => bif Nat.ble (d + 1) n then v.force fun v => some ((d, v) :: sl) else none

def enumFrom (i : Nat) : List SV → Slots
  | [] => []
  | v :: r => (i, v) :: enumFrom (i + 1) r

/-- What a function's frame gives. -/
def resOne (P : Program) (sl : Slots) (hp ro : Hp) : ResultVar → Option (List Prop × SV)
  | .tmp t => evs sl (.tmp t)
  | .cell a t => match evs sl (.tmp a) with
    | some (cs, p) => match load P hp ro t p with
      | some (ds, v) => some (cs ++ ds, v)
      | none => none
    | none => none
def resAll (P : Program) (sl : Slots) (hp ro : Hp) : List ResultVar → Option (List Prop × List SV)
  | [] => some ([], [])
  | r :: rs => match resOne P sl hp ro r, resAll P sl hp ro rs with
    | some (cs, v), some (ds, l) => v.force fun v => some (cs ++ ds, v :: l)
    | _, _ => none
def resV (P : Program) (fn : Nat) (sl : Slots) (hp ro : Hp) : Option (List Prop × SV) :=
  match P.funcs[fn]? with
  | some f => match resAll P sl hp ro f.results.toList with
    | some (cs, [v]) => some (cs, v)
    | some (cs, l) => some (cs, .tup l)
    | none => none
  | none => none

/-- The guard's say: the operation runs; it is passed over; it runs if g. -/
inductive Gd where
  | run
  | pass
  | may (g : Bool)
def guardIn (ops : Array Oper) (sl : Slots) (o : Oper) : Option Gd :=
  match o.guard with
  | none => some .run
  | some (j, want) => match (ops[j]?).bind (·.dst) with
    | some t => match look t sl with
      | some .tt => match want with
        | true => some .run
        | false => some .pass
      | some .ff => match want with
        | true => some .pass
        | false => some .run
      | some (.sb g) => match want with
        | true => some (.may g)
        | false => some (.may (!g))
      | some (.cnd g (.sb h)) => match want with
        | true => some (.may (g && h))
        | false => some (.may (g && !h))
      | some (.cnd g .tt) => match want with
        | true => some (.may g)
        | false => some .pass
      | some (.cnd g .ff) => match want with
        | true => some .pass
        | false => some (.may g)
      | some (.cnd g .und) => match g with
        | true => none
        | false => some .pass
      | _ => none
    | none => none

def quietAll (P : Program) (st : Bool) (sl : Slots) (hp ro : Hp) (op : Op) : Option (List Prop × SV) :=
  match quiet P st sl hp ro op with
  | some r => some r
  | none => quiet2 P sl op

def appL : List SV → List SV → Option (List SV)
  | [], b => some b
  | x :: a, b => match appL a b with
    | some r => some (x :: r)
    | none => none
/-- A call: who is called, with what. -/
def callee (P : Program) (sl : Slots) : Op → Option (List Prop × Nat × Func × Code × List SV)
  | .call { callee := .value f, args := as, argTypes := _ } => match evs sl f, evList sl as.toList with
    | some (cs, .clo (.func g) a c), some (ds, l) => match P.funcs[g]? with
      | some fn => match fn.body with
        | some b => match appL l c with
          | some lc => match appL a lc with
            | some alc => some (cs ++ ds, g, fn, b, alc)
            | none => none
          | none => none
        | none => none
      | none => none
    | _, _ => none
  | _ => none

def sstep (P : Program) (M : Mode) (ro : Hp) : Cfg → Option (List Prop × Cfg)
  | ⟨⟨fn, n, sl, .code .skip :: k⟩, rest, hp, nx⟩ => some ([], ⟨⟨fn, n, sl, k⟩, rest, hp, nx⟩)
  | ⟨⟨fn, n, sl, .code (.label _) :: k⟩, rest, hp, nx⟩ => some ([], ⟨⟨fn, n, sl, k⟩, rest, hp, nx⟩)
  | ⟨⟨fn, n, sl, .blk _ :: k⟩, rest, hp, nx⟩ => some ([], ⟨⟨fn, n, sl, k⟩, rest, hp, nx⟩)
  | ⟨⟨fn, n, sl, .scope _ :: k⟩, rest, hp, nx⟩ => some ([], ⟨⟨fn, n, sl, k⟩, rest, hp, nx⟩)
  | ⟨⟨fn, n, sl, .code (.seq a b) :: k⟩, rest, hp, nx⟩ => some ([], ⟨⟨fn, n, sl, .code a :: .code b :: k⟩, rest, hp, nx⟩)
  | ⟨⟨fn, n, sl, .code (.block id a) :: k⟩, rest, hp, nx⟩ => some ([], ⟨⟨fn, n, sl, .code a :: .blk id :: k⟩, rest, hp, nx⟩)
  | ⟨⟨fn, n, sl, .code (.scope a) :: k⟩, rest, hp, nx⟩ => some ([], ⟨⟨fn, n, sl, .code a :: .scope a :: k⟩, rest, hp, nx⟩)
  | ⟨⟨fn, n, sl, .code (.cond x a b) :: k⟩, rest, hp, nx⟩ => match ev sl x with
    | some .tt => some ([], ⟨⟨fn, n, sl, .code a :: k⟩, rest, hp, nx⟩)
    | some .ff => some ([], ⟨⟨fn, n, sl, .code b :: k⟩, rest, hp, nx⟩)
    | _ => none
  | ⟨⟨fn, n, sl, .code (.loop a) :: k⟩, rest, hp, nx⟩ => bif M.unr then some ([], ⟨⟨fn, n, sl, .code a :: .loop a :: k⟩, rest, hp, nx⟩) else none
  | ⟨⟨fn, n, sl, .loop a :: k⟩, rest, hp, nx⟩ => bif M.unr then some ([], ⟨⟨fn, n, sl, .code a :: .loop a :: k⟩, rest, hp, nx⟩) else none
  | ⟨⟨fn, n, sl, .code (.exit id) :: k⟩, rest, hp, nx⟩ => match exitS id k with
    | some k' => some ([], ⟨⟨fn, n, sl, k'⟩, rest, hp, nx⟩)
    | none => none
  | ⟨⟨fn, n, sl, .code (.region _ ops false) :: k⟩, rest, hp, nx⟩ => some ([], ⟨⟨fn, n, sl, .reg ops 0 ops.toList none :: k⟩, rest, hp, nx⟩)
  | ⟨⟨fn, n, sl, .reg _ _ [] none :: k⟩, rest, hp, nx⟩ => match M.keep fn.f with
    | none => some ([], ⟨⟨fn, n, sl, k⟩, rest, hp, nx⟩)
    | some l => match thin l sl with
      | some sl' => some ([], ⟨⟨fn, n, sl', k⟩, rest, hp, nx⟩)
      | none => none
  | ⟨⟨⟨f, none, []⟩, n, sl, .code .ret :: _⟩, ⟨cfn, cn, csl, .reg ops i (o :: cur) tl :: k⟩ :: rest, hp, nx⟩ => match resV P f sl hp ro with
    | some (cs, v) => match put o.dst v cn csl with
      | some csl' => some (cs, ⟨⟨cfn, cn, csl', .reg ops (i + 1) cur tl :: k⟩, rest, hp, nx⟩)
      | none => none
    | none => none
  | ⟨⟨⟨f, none, []⟩, n, sl, []⟩, ⟨cfn, cn, csl, .reg ops i (o :: cur) tl :: k⟩ :: rest, hp, nx⟩ => match resV P f sl hp ro with
    | some (cs, v) => match put o.dst v cn csl with
      | some csl' => some (cs, ⟨⟨cfn, cn, csl', .reg ops (i + 1) cur tl :: k⟩, rest, hp, nx⟩)
      | none => none
    | none => none
  | ⟨⟨fn, n, sl, .reg ops i (o :: cur) tl :: k⟩, rest, hp, nx⟩ => match guardIn ops sl o with
    | none => none
    | some .pass => match put o.dst (.cnd false .und) n sl with
      | some sl' => some ([], ⟨⟨fn, n, sl', .reg ops (i + 1) cur tl :: k⟩, rest, hp, nx⟩)
      | none => none
    | some (.may g) => match quietAll P M.st sl hp ro o.op with
      | some (cs, v) => match put o.dst (.cnd g v) n sl with
        | some sl' => some (cs.map (fun p => g = true → p), ⟨⟨fn, n, sl', .reg ops (i + 1) cur tl :: k⟩, rest, hp, nx⟩)
        | none => none
      | none => match callee P sl o.op with
        | some (cs, f, _, _, as) => match M.sum f as with
          | some (ds, v) => match put o.dst (.cnd g v) n sl with
            | some sl' => some ((cs ++ ds).map (fun p => g = true → p), ⟨⟨fn, n, sl', .reg ops (i + 1) cur tl :: k⟩, rest, hp, nx⟩)
            | none => none
          | none => none
        | none => none
    | some .run => match quietAll P M.st sl hp ro o.op with
      | some (cs, v) => match put o.dst v n sl with
        | some sl' => some (cs, ⟨⟨fn, n, sl', .reg ops (i + 1) cur tl :: k⟩, rest, hp, nx⟩)
        | none => none
      | none => match loud P sl hp ro nx o.op with
        | some ⟨some v, hp', nx', cs⟩ => match put o.dst v n sl with
          | some sl' => natF nx' fun nx' => some (cs, ⟨⟨fn, n, sl', .reg ops (i + 1) cur tl :: k⟩, rest, hp', nx'⟩)
          | none => none
        | some ⟨none, hp', nx', cs⟩ => match put o.dst .und n sl with
          | some sl' => natF nx' fun nx' => some (cs, ⟨⟨fn, n, sl', .reg ops (i + 1) cur tl :: k⟩, rest, hp', nx'⟩)
          | none => none
        | none => match callee P sl o.op with
          | some (cs, f, g, c, as) => match M.sum f as with
            | some (ds, v) => match put o.dst v n sl with
              | some sl' => some (cs ++ ds, ⟨⟨fn, n, sl', .reg ops (i + 1) cur tl :: k⟩, rest, hp, nx⟩)
              | none => none
            | none => bif M.inl f then some (cs, ⟨⟨fid f, as.length + (g.ntmps - as.length), enumFrom 0 as, [.code c]⟩, ⟨fn, n, sl, .reg ops i (o :: cur) tl :: k⟩ :: rest, hp, nx⟩) else none
          | none => none
  | _ => none

def pushAll : List Prop → List Prop → List Prop
  | [], acc => acc
  | p :: ps, acc => pushAll ps (p :: acc)
def exec (P : Program) (M : Mode) (ro : Hp) : Nat → List Prop → Cfg → List Prop × Cfg
  | 0, acc, c => (acc, c)
  | n + 1, acc, c => match sstep P M ro c with
    | none => (acc, c)
    | some (cs, c') => match pushAll cs acc with
      | [] => exec P M ro n [] c'
      | p :: ps => exec P M ro n (p :: ps) c'

theorem pushAll_mem {p : Prop} : ∀ {cs acc : List Prop}, (p ∈ cs ∨ p ∈ acc) → p ∈ pushAll cs acc
  | [], acc, h => by simpa [pushAll] using h
  | q :: cs, acc, h => by
    simp only [pushAll]
    apply pushAll_mem
    rcases h with h | h
    · cases h with
      | head => exact .inr (List.mem_cons_self ..)
      | tail _ h => exact .inl h
    · exact .inr (List.mem_cons_of_mem _ h)
end Sx
end
section
namespace Sx
open Go

def Named (P : Program) : Prop := ∀ (f : FuncId) (fn : Func), P.funcs[f]? = some fn → (fn.name == "runtime.NumGoroutine") = false
def Base.ok (B : Base) : Prop := ∀ b o, B.D b = some o → b < B.w.heap.size
def SumOk (P : Program) (S : Sum) : Prop := ∀ f xs cs r, S f xs = some (cs, r) → All cs → ∀ β vs w, RelL β xs vs →
  Calls P f vs.toArray w fun e w' => ∃ v, e = .returned v ∧ Rel β r v ∧ RowKit.Below w.heap.size w w'

theorem FrRel.at {β : Env} {s : SFr} {fr : Frame} (h : FrRel β s fr) : fr = fr.atR ⟨fr.tmps, fr.defers⟩ (s.todo.map SI.item) := by
  have h1 := h.todo; have h3 := h.mode; have h4 := h.rnd
  cases fr
  simp only at h1 h3 h4
  subst h1 h3 h4
  rfl
theorem FrRel.of {β : Env} {fn : FId} {n : Nat} {sl : Slots} {todo : List SI} {b : Frame} {tmps : Array Value} {dd : List Deferred} (hf : b.fn = fn.f) (hr : b.roundOf = fn.rnd) (hk : b.kind = kindOf fn.dfs) (hd : DfRel β fn.dfs dd) (hn : tmps.size = n)
    (hs : ∀ t v, look t sl = some v → Rel β v (tmps.getD t undef)) (hlt : ∀ t v, look t sl = some v → t < n) (hok : ∀ x ∈ todo, x.ok) : FrRel β ⟨fn, n, sl, todo⟩ (b.atR ⟨tmps, dd⟩ (todo.map SI.item)) :=
  ⟨hf, hn, hs, hlt, rfl, hok, hd, rfl, hk, hr⟩
theorem FrRel.rho {ds : List Deferred} {β : Env} {s : SFr} {fr : Frame} (h : FrRel β s fr) : Rho β s.sl (Act.eval ⟨fr.tmps, ds⟩) :=
  ⟨h.slot, fun _ => rfl, fun _ => rfl⟩

theorem exitS_spec {id : Nat} : ∀ {k k' : List SI}, exitS id k = some k' → exitTo id (k.map SI.item) = some (k'.map SI.item) ∧ ∀ x ∈ k', x ∈ k
  | [], k', h => by cases h
  | .blk j :: k, k', h => by
    simp only [exitS] at h
    cases hb : Nat.beq j id with
    | true =>
      rw [hb] at h; simp only [cond_true, Option.some.injEq] at h; subst h
      have := beq_nat hb; subst this
      exact ⟨by simp [SI.item, exitTo], fun x hx => List.mem_cons_of_mem _ hx⟩
    | false =>
      rw [hb] at h; simp only [cond_false] at h
      obtain ⟨h1, h2⟩ := exitS_spec h
      refine ⟨?_, fun x hx => List.mem_cons_of_mem _ (h2 x hx)⟩
      simp only [List.map_cons, SI.item, exitTo]
      rw [if_neg ?_]
      · exact h1
      · intro e; have : j = id := by simpa using e
        subst this; rw [Nat.beq_refl] at hb; cases hb
  | .code c :: k, k', h => by obtain ⟨h1, h2⟩ := exitS_spec (k := k) h; exact ⟨by simpa [SI.item, exitTo] using h1, fun x hx => List.mem_cons_of_mem _ (h2 x hx)⟩
  | .loop c :: k, k', h => by obtain ⟨h1, h2⟩ := exitS_spec (k := k) h; exact ⟨by simpa [SI.item, exitTo] using h1, fun x hx => List.mem_cons_of_mem _ (h2 x hx)⟩
  | .scope c :: k, k', h => by obtain ⟨h1, h2⟩ := exitS_spec (k := k) h; exact ⟨by simpa [SI.item, exitTo] using h1, fun x hx => List.mem_cons_of_mem _ (h2 x hx)⟩
  | .inR _ :: k, k', h => by obtain ⟨h1, h2⟩ := exitS_spec (k := k) h; exact ⟨by simpa [SI.item, exitTo] using h1, fun x hx => List.mem_cons_of_mem _ (h2 x hx)⟩
  | .begin :: k, k', h => by obtain ⟨h1, h2⟩ := exitS_spec (k := k) h; exact ⟨by simpa [SI.item, exitTo] using h1, fun x hx => List.mem_cons_of_mem _ (h2 x hx)⟩
  | .gone _ :: k, k', h => by obtain ⟨h1, h2⟩ := exitS_spec (k := k) h; exact ⟨by simpa [SI.item, exitTo] using h1, fun x hx => List.mem_cons_of_mem _ (h2 x hx)⟩
  | .endR _ :: k, k', h => by obtain ⟨h1, h2⟩ := exitS_spec (k := k) h; exact ⟨by simpa [SI.item, exitTo] using h1, fun x hx => List.mem_cons_of_mem _ (h2 x hx)⟩
  | .reg a b c d :: k, k', h => by obtain ⟨h1, h2⟩ := exitS_spec (k := k) h; exact ⟨by simpa [SI.item, exitTo] using h1, fun x hx => List.mem_cons_of_mem _ (h2 x hx)⟩

theorem put_spec {ds : List Deferred} {β : Env} {dst : Option Tmp} {s : SV} {n : Nat} {sl sl' : Slots} (h : put dst s n sl = some sl') {tmps : Array Value} (hn : tmps.size = n)
    (hs : ∀ t v, look t sl = some v → Rel β v (tmps.getD t undef)) (hl : ∀ t v, look t sl = some v → t < n) {v : Value} (hv : Rel β s v) :
    (Act.put ⟨tmps, ds⟩ dst v).tmps.size = n ∧ (∀ t u, look t sl' = some u → t < n) ∧ ∀ t u, look t sl' = some u → Rel β u ((Act.put ⟨tmps, ds⟩ dst v).tmps.getD t undef) := by
  cases dst with
  | none => injection h with h; subst h; exact ⟨hn, hl, hs⟩
  | some d =>
    simp only [put, SV.force_eq] at h
    cases hb : Nat.ble (d + 1) n with
    | false => rw [hb] at h; cases h
    | true =>
      rw [hb] at h; simp only [cond_true, Option.some.injEq] at h; subst h
      have hlt := ble_nat hb
      refine ⟨by simp [Act.put, hn], fun t u hu => ?_, fun t u hu => ?_⟩
      · simp only [look] at hu
        cases ht : Nat.beq t d with
        | true => have := beq_nat ht; omega
        | false => rw [ht] at hu; exact hl t u hu
      simp only [look] at hu
      cases ht : Nat.beq t d with
      | true =>
        rw [ht] at hu; simp only [cond_true, Option.some.injEq] at hu; subst hu
        have := beq_nat ht; subst this
        simp only [Act.put, Array.getD_eq_getD_getElem?, Array.getElem?_setIfInBounds]
        rw [if_pos trivial, if_pos (by omega)]
        exact hv
      | false =>
        rw [ht] at hu; simp only [cond_false] at hu
        have hne : d ≠ t := by intro e; subst e; rw [Nat.beq_refl] at ht; cases ht
        have := hs t u hu
        simp only [Act.put, Array.getD_eq_getD_getElem?, Array.getElem?_setIfInBounds]
        rw [if_neg hne]
        simpa [Array.getD_eq_getD_getElem?] using this
theorem put_eq (tmps : Array Value) (ds : List Deferred) (dst : Option Tmp) (v : Value) : Act.put ⟨tmps, ds⟩ dst v = ⟨(Act.put ⟨tmps, ds⟩ dst v).tmps, ds⟩ := by cases dst <;> rfl

theorem reg_ok {ops : Array Oper} {i : Nat} {o : Oper} {cur : List Oper} {tl : Option (List Nat)} (h : (SI.reg ops i (o :: cur) tl).ok) :
    ops[i]? = some o ∧ (SI.reg ops (i + 1) cur tl).ok ∧ (SI.reg ops i (o :: cur) tl).item = .inRegion ops (i :: (List.range' (i + 1) cur.length ++ tl.getD [])) := by
  simp only [SI.ok] at h
  refine ⟨?_, ?_, ?_⟩
  · simpa using h 0 (by simp)
  · intro j hj
    have := h (j + 1) (by simp; omega)
    rw [show i + 1 + j = i + (j + 1) by omega, this]; simp
  · simp [SI.item, List.range'_succ]

theorem semAt_ok {P : Program} {ro : Option Nat} {ρ : Operand → Value} {o : Oper} {w w' : World} {x : Next} (h : (execOp ρ o).run P w = .ok x w') (hx : ∀ d, x ≠ .defer d) : o.semAt ro ρ = execOp ρ o := by
  refine Oper.semAt_eq _ _ _ (fun c hc => ?_)
  simp only [execOp, hc, Sem.run_bind] at h
  cases hr : (resolve ρ c o.type).run P w with
  | ok d w1 => simp [hr, Result.andThen] at h; exact hx d h.1.symm
  | halt a w1 => simp [hr, Result.andThen] at h

section
variable {P : Program} {b : Frame} {a : Act} {k : List Item} {cs : List Frame} {w w' : World} {ops : Array Oper} {i : Nat} {rest : List Nat} {o : Oper}
theorem op_value {v : Value} (ho : ops[i]? = some o) (hw : Region.wanted o (yielded ops a.tmps) = true) (hr : (execOp a.eval o).run P w = .ok (.value v) w') :
    step P (lone (b.atR a (.inRegion ops (i :: rest) :: k)) cs w) = .next (lone (b.atR (a.put o.dst v) (.inRegion ops rest :: k)) cs w') := by
  have hg := stepGR_op (P := P) (b := b) (k := k) (cs := cs) (w := w) (rest := rest) ho hw
  rw [semAt_ok hr (fun d e => by cases e)] at hg
  have hfin : (b.atR a (.inRegion ops (i :: rest) :: k)).finish v = b.atR (a.put o.dst v) (.inRegion ops rest :: k) := by rw [Frame.finish_atR, ho]; rfl
  refine step_lone_go ?_
  rw [hg, ← hfin]; simp [stepG.apply, hr]
theorem op_unit (ho : ops[i]? = some o) (hw : Region.wanted o (yielded ops a.tmps) = true) (hr : (execOp a.eval o).run P w = .ok .skip w') :
    step P (lone (b.atR a (.inRegion ops (i :: rest) :: k)) cs w) = .next (lone (b.atR (a.put o.dst undef) (.inRegion ops rest :: k)) cs w') := by
  have hg := stepGR_op (P := P) (b := b) (k := k) (cs := cs) (w := w) (rest := rest) ho hw
  rw [semAt_ok hr (fun d e => by cases e)] at hg
  have hfin : (b.atR a (.inRegion ops (i :: rest) :: k)).finish undef = b.atR (a.put o.dst undef) (.inRegion ops rest :: k) := by rw [Frame.finish_atR, ho]; rfl
  refine step_lone_go ?_
  rw [hg, ← hfin]; simp [stepG.apply, hr]
theorem op_pass (ho : ops[i]? = some o) (hw : Region.wanted o (yielded ops a.tmps) = false) :
    step P (lone (b.atR a (.inRegion ops (i :: rest) :: k)) cs w) = .next (lone (b.atR (a.put o.dst undef) (.inRegion ops rest :: k)) cs w) := by
  have hs := stepR_op_skip (P := P) (b := b) (a := a) (k := k) (cs := cs) (w := w) (ops := ops) (i := i) (rest := rest) (by simp [ho, hw])
  simpa [ho] using hs
theorem op_enter {f : FuncId} {xs : Array Value} (ho : ops[i]? = some o) (hw : Region.wanted o (yielded ops a.tmps) = true) (hr : (execOp a.eval o).run P w = .ok (.enter f xs) w') :
    step P (lone (b.atR a (.inRegion ops (i :: rest) :: k)) cs w) = .next (lone (Frame.enter P f xs .normal) (b.atR a (.inRegion ops (i :: rest) :: k) :: cs) w') := by
  have hg := stepGR_op (P := P) (b := b) (k := k) (cs := cs) (w := w) (rest := rest) ho hw
  rw [semAt_ok hr (fun d e => by cases e)] at hg
  exact step_lone_go (by rw [hg]; simp [stepG.apply, hr, Frame.atR])
end

/-- What the symbolic guard says of the real one. -/
theorem guard_rel {β : Env} {ops : Array Oper} {sl : Slots} {o : Oper} {g : Gd} (h : guardIn ops sl o = some g) {tmps : Array Value} {n : Nat} (hn : tmps.size = n)
    (hs : ∀ t v, look t sl = some v → Rel β v (tmps.getD t undef)) (hlt : ∀ t v, look t sl = some v → t < tmps.size) :
    match g with
    | .run => Region.wanted o (yielded ops tmps) = true
    | .pass => Region.wanted o (yielded ops tmps) = false
    | .may c => Region.wanted o (yielded ops tmps) = c := by
  unfold guardIn at h
  unfold Region.wanted
  split at h
  · rename_i hg; injection h with h; subst h; simp [hg]
  · rename_i j want hg
    simp only [hg]
    split at h
    · rename_i t ht
      have hy : ∀ v, tmps.getD t undef = v → t < tmps.size → yielded ops tmps j = match v with | .bool b => some b | _ => none := by
        intro v hv hlt
        unfold yielded
        rw [ht]
        simp only [Option.bind_some]
        rw [Array.getElem?_eq_getElem hlt]
        have : tmps[t] = v := by rw [← hv, Array.getD_eq_getD_getElem?, Array.getElem?_eq_getElem hlt]; rfl
        rw [this]
        cases v <;> rfl
      split at h
      · rename_i hl
        have hv := hs t _ hl
        rw [hy _ hv (hlt t _ hl)]
        cases want <;> (injection h with h; subst h; rfl)
      · rename_i hl
        have hv := hs t _ hl
        rw [hy _ hv (hlt t _ hl)]
        cases want <;> (injection h with h; subst h; rfl)
      · rename_i g' hl
        have hv := hs t _ hl
        rw [hy _ hv (hlt t _ hl)]
        cases want <;> (injection h with h; subst h; cases g' <;> rfl)
      · rename_i g1 g2 hl
        obtain ⟨h1, h2⟩ := hs t _ hl
        cases g1 with
        | true => rw [hy _ (h1 rfl) (hlt t _ hl)]; cases want <;> (injection h with h; subst h; cases g2 <;> rfl)
        | false => rw [hy _ (h2 rfl) (hlt t _ hl)]; cases want <;> (injection h with h; subst h; rfl)
      · rename_i g1 hl
        obtain ⟨h1, h2⟩ := hs t _ hl
        cases g1 with
        | true => rw [hy _ (h1 rfl) (hlt t _ hl)]; cases want <;> (injection h with h; subst h; rfl)
        | false => rw [hy _ (h2 rfl) (hlt t _ hl)]; cases want <;> (injection h with h; subst h; rfl)
      · rename_i g1 hl
        obtain ⟨h1, h2⟩ := hs t _ hl
        cases g1 with
        | true => rw [hy _ (h1 rfl) (hlt t _ hl)]; cases want <;> (injection h with h; subst h; rfl)
        | false => rw [hy _ (h2 rfl) (hlt t _ hl)]; cases want <;> (injection h with h; subst h; rfl)
      · rename_i g1 hl
        obtain ⟨h1, h2⟩ := hs t _ hl
        cases g1 with
        | true => cases h
        | false => rw [hy _ (h2 rfl) (hlt t _ hl)]; injection h with h; subst h; cases want <;> rfl
      · cases h
    · cases h
end Sx
end
section
namespace Sx
open Go

theorem Sat.below {β : Env} {hp ro : Hp} {B : Base} {nx : Nat} {w w' : World} (hs : Sat β hp ro B nx w) (hb : RowKit.Below w.heap.size w w') : Sat β hp ro B nx w' := by
  have hlt : ∀ b o, w.heap[b]? = some o → w'.heap[b]? = some o := fun b o h => by rw [hb.block b (Array.getElem?_eq_some_iff.1 h).1]; exact h
  refine ⟨⟨?_, hs.apart, hs.read, fun b o h => hlt b o (hs.old b o h), hb.os.trans hs.os, hb.tape.trans hs.tape, hb.output.trans hs.output, Nat.le_trans hs.size hb.size, hs.pin⟩, hs.fresh⟩
  intro j s hj
  intro hlive
  obtain ⟨b, o, h1, h2, h3, h4, h5⟩ := hs.own j s hj hlive
  exact ⟨b, o, h1, h2, hlt b o h3, h4, h5⟩

theorem appL_spec : ∀ {a b r : List SV}, appL a b = some r → r = a ++ b
  | [], b, r, h => by injection h with h; exact h.symm
  | x :: a, b, r, h => by
    simp only [appL] at h
    split at h
    · rename_i r' hr; injection h with h; subst h; rw [appL_spec hr]; rfl
    · cases h

theorem callee_run {P : Program} {β : Env} {w : World} {sl : Slots} {ρ : Operand → Value} (hP : Named P) (hr : Rho β sl ρ) {o : Oper} {cs : List Prop} {g : Nat} {fn : Func} {b : Code} {xs : List SV}
    (h : callee P sl o.op = some (cs, g, fn, b, xs)) (hc : All cs) :
    P.funcs[g]? = some fn ∧ fn.body = some b ∧ ∃ vs : List Value, RelL β xs vs ∧ (execOp ρ o).run P w = .ok (.enter g vs.toArray) w := by
  generalize hop : o.op = op at h
  unfold callee at h
  split at h
  · rename_i f ys tys
    split at h <;> first | exact (none_ne h).elim | skip
    rename_i cs1 g' a c ds l e1 e2
    split at h <;> first | exact (none_ne h).elim | skip
    rename_i fn' hfn
    split at h <;> first | exact (none_ne h).elim | skip
    rename_i b' hb
    split at h <;> first | exact (none_ne h).elim | skip
    rename_i lc e3
    split at h <;> first | exact (none_ne h).elim | skip
    rename_i alc e4
    simp only [Option.some.injEq, Prod.mk.injEq] at h
    obtain ⟨rfl, rfl, rfl, rfl, rfl⟩ := h
    have e3 := appL_spec e3
    have e4 := appL_spec e4
    subst e3 e4
    obtain ⟨us, ws, hv, hu, hw⟩ := evs_rel hr e1 hc.left
    have hl := evList_rel hr e2 hc.right
    refine ⟨hfn, hb, us ++ (ys.toList.map ρ ++ ws), hu.append (hl.append hw), ?_⟩
    have hname := hP _ _ hfn
    simp only [execOp, hop, Sem.run_bind, resolve, hv, Deferred.ofValue, Sem.run_pure, Result.andThen, invoke, callFunc, run_program, hfn, Sem.run_ite, hname, Bool.false_eq_true, if_false, hb, Option.isNone_some]
    congr 2
    apply Array.ext'
    simp
  · cases h

def resSem (tmps : Array Value) : ResultVar → Sem Value
  | .tmp t => pure (tmps.getD t undef)
  | .cell a t => do loadVar t (← asAddr (tmps.getD a undef))
theorem results_eq (fn : Func) (tmps : Array Value) : results fn tmps = (do let vs ← fn.results.mapM (resSem tmps); pure (if h : vs.size = 1 then vs[0] else .tuple vs)) := by
  unfold results
  congr 1

theorem resOne_run {dd : List Deferred} {P : Program} {β : Env} {hp ro : Hp} {B : Base} {nx : Nat} {w : World} (hs : Sat β hp ro B nx w) {sl : Slots} {tmps : Array Value} (hr : Rho β sl (Act.eval ⟨tmps, dd⟩))
    {r : ResultVar} {cs : List Prop} {s : SV} (h : resOne P sl hp ro r = some (cs, s)) (hc : All cs) :
    ∃ v, (resSem tmps r).run P w = .ok v w ∧ Rel β s v := by
  cases r with
  | tmp t => exact ⟨tmps.getD t undef, rfl, evs_rel (ρ := Act.eval ⟨tmps, dd⟩) hr h hc⟩
  | cell a t =>
    simp only [resOne] at h
    split at h <;> first | exact (none_ne h).elim | skip
    rename_i cs1 p e1
    split at h <;> first | exact (none_ne h).elim | skip
    rename_i ds v e2
    simp only [Option.some.injEq, Prod.mk.injEq] at h
    obtain ⟨rfl, rfl⟩ := h
    have hx := evs_rel hr e1 hc.left
    obtain ⟨u, hu, hru⟩ := load_run (P := P) hs.toMem e2 hc.right hx
    refine ⟨u, ?_, hru⟩
    have hptr : ∃ ad, (Act.eval ⟨tmps, dd⟩ (.tmp a)) = .pointer (some ad) := by
      unfold load at e2
      split at e2
      · split at e2
        · split at e2
          · rename_i hl
            unfold hread at hl
            split at hl
            · rename_i hpl; obtain ⟨b, _, e⟩ := oplace_rel hpl hx; exact ⟨_, e⟩
            · cases hl
          · cases e2
        · cases e2
      · split at e2
        · rename_i hl
          unfold hread at hl
          split at hl
          · rename_i hpl; obtain ⟨b, _, e⟩ := oplace_rel hpl hx; exact ⟨_, e⟩
          · cases hl
        · cases e2
      · cases e2
    obtain ⟨ad, had⟩ := hptr
    rw [had] at hu
    have had' : tmps.getD a undef = .pointer (some ad) := had
    simp only [resSem, had', asAddr, Sem.run_bind, Sem.run_pure, Result.andThen]
    simpa [Instr.loadAt, Instr.sureAddr, Result.andThen] using hu

theorem resAll_run {dd : List Deferred} {P : Program} {β : Env} {hp ro : Hp} {B : Base} {nx : Nat} {w : World} (hs : Sat β hp ro B nx w) {sl : Slots} {tmps : Array Value} (hr : Rho β sl (Act.eval ⟨tmps, dd⟩)) :
    ∀ {rs : List ResultVar} {cs : List Prop} {l : List SV}, resAll P sl hp ro rs = some (cs, l) → All cs →
    ∃ vs, (rs.mapM (resSem tmps)).run P w = .ok vs w ∧ RelL β l vs
  | [], cs, l, h, hc => by simp only [resAll, Option.some.injEq, Prod.mk.injEq] at h; obtain ⟨rfl, rfl⟩ := h; exact ⟨[], by simp, rfl⟩
  | r :: rs, cs, l, h, hc => by
    simp only [resAll, SV.force_eq] at h
    split at h <;> first | exact (none_ne h).elim | skip
    rename_i cs1 v ds l' e1 e2
    simp only [Option.some.injEq, Prod.mk.injEq] at h
    obtain ⟨rfl, rfl⟩ := h
    obtain ⟨u, hu, hru⟩ := resOne_run (P := P) hs hr e1 hc.left
    obtain ⟨us, hus, hl⟩ := resAll_run hs hr e2 hc.right
    exact ⟨u :: us, by simp only [List.mapM_cons, Sem.run_bind, hu, Result.andThen, hus, Sem.run_pure], u, us, rfl, hru, hl⟩

theorem resV_run {dd : List Deferred} {P : Program} {β : Env} {hp ro : Hp} {B : Base} {nx : Nat} {w : World} (hs : Sat β hp ro B nx w) {sl : Slots} {tmps : Array Value} (hr : Rho β sl (Act.eval ⟨tmps, dd⟩))
    {f : Nat} {cs : List Prop} {s : SV} (h : resV P f sl hp ro = some (cs, s)) (hc : All cs) : ∃ fn v, P.funcs[f]? = some fn ∧ (results fn tmps).run P w = .ok v w ∧ Rel β s v := by
  unfold resV at h
  split at h <;> first | exact (none_ne h).elim | skip
  rename_i fn hfn
  have key : ∀ {cs l}, resAll P sl hp ro fn.results.toList = some (cs, l) → All cs → ∃ vs, RelL β l vs ∧ (results fn tmps).run P w = .ok (if h : vs.toArray.size = 1 then vs.toArray[0] else .tuple vs.toArray) w := by
    intro cs l hl hc
    obtain ⟨vs, hvs, hrel⟩ := resAll_run hs hr hl hc
    refine ⟨vs, hrel, ?_⟩
    rw [results_eq]
    simp only [Array.mapM_eq_mapM_toList, Sem.run_bind, Sem.run_map, hvs, Result.andThen, Sem.run_pure]
  split at h <;> first | exact (none_ne h).elim | skip
  · rename_i cs1 v e
    simp only [Option.some.injEq, Prod.mk.injEq] at h
    obtain ⟨rfl, rfl⟩ := h
    obtain ⟨vs, ⟨u, us, rfl, hu, hn⟩, hrun⟩ := key e hc
    simp only [RelL] at hn; subst hn
    exact ⟨fn, u, hfn, by rw [hrun]; simp, hu⟩
  · rename_i cs1 l hne e
    simp only [Option.some.injEq, Prod.mk.injEq] at h
    obtain ⟨rfl, rfl⟩ := h
    obtain ⟨vs, hrel, hrun⟩ := key e hc
    have hlen : vs.toArray.size ≠ 1 := by
      intro h1
      have := hrel.length
      simp at h1
      rw [h1] at this
      cases l with
      | nil => simp at this
      | cons x l =>
        cases l with
        | nil => exact hne x rfl
        | cons y l => simp at this
    exact ⟨fn, _, hfn, by rw [hrun, dif_neg hlen], vs, rfl, hrel⟩

theorem thin_spec {k : List Nat} : ∀ {sl sl' : Slots}, thin k sl = some sl' → ∀ {t v}, look t sl' = some v → look t sl = some v
  | [], sl', h, t, v, hl => by injection h with h; subst h; exact hl
  | (i, u) :: r, sl', h, t, v, hl => by
    simp only [thin] at h
    split at h <;> first | exact (none_ne h).elim | skip
    rename_i r' hr
    cases hk : hasN i k with
    | true =>
      rw [hk] at h; simp only [cond_true, Option.some.injEq] at h; subst h
      simp only [look] at hl ⊢
      cases hb : Nat.beq t i with
      | true => rw [hb] at hl; exact hl
      | false => rw [hb] at hl; exact thin_spec hr hl
    | false =>
      rw [hk] at h; simp only [cond_false, Option.some.injEq] at h; subst h
      simp only [look]
      cases hb : Nat.beq t i with
      | true =>
        exfalso
        have := beq_nat hb; subst this
        have : ∀ {sl sl' : Slots}, thin k sl = some sl' → look t sl' = none := by
          intro sl
          induction sl with
          | nil => intro sl' h; injection h with h; subst h; rfl
          | cons p r ih =>
            intro sl' h
            obtain ⟨j, x⟩ := p
            simp only [thin] at h
            split at h <;> first | exact (none_ne h).elim | skip
            rename_i r'' hr''
            cases hj : hasN j k with
            | true =>
              rw [hj] at h; simp only [cond_true, Option.some.injEq] at h; subst h
              simp only [look]
              cases hb2 : Nat.beq t j with
              | true => have := beq_nat hb2; subst this; rw [hk] at hj; cases hj
              | false => exact ih hr''
            | false =>
              rw [hj] at h; simp only [cond_false, Option.some.injEq] at h; subst h; exact ih hr''
        rw [this hr] at hl; cases hl
      | false => exact thin_spec hr hl

theorem enum_look : ∀ {xs : List SV} {i t : Nat} {v : SV}, look t (enumFrom i xs) = some v → i ≤ t ∧ xs[t - i]? = some v
  | [], i, t, v, h => by cases h
  | x :: xs, i, t, v, h => by
    simp only [enumFrom, look] at h
    cases hb : Nat.beq t i with
    | true => rw [hb] at h; have := beq_nat hb; subst this; simp at h; exact ⟨Nat.le_refl _, by simp [h]⟩
    | false =>
      rw [hb] at h; simp only [cond_false] at h
      obtain ⟨h1, h2⟩ := enum_look h
      have hne : t ≠ i := by intro e; subst e; rw [Nat.beq_refl] at hb; cases hb
      refine ⟨by omega, ?_⟩
      rw [show t - i = (t - (i + 1)) + 1 by omega]
      simpa using h2

theorem enter_rel {P : Program} {β : Env} {f : Nat} {fn : Func} {b : Code} {xs : List SV} {vs : List Value} (hfn : P.funcs[f]? = some fn) (hb : fn.body = some b) (hl : RelL β xs vs) :
    FrRel β ⟨fid f, xs.length + (fn.ntmps - xs.length), enumFrom 0 xs, [.code b]⟩ (Frame.enter P f vs.toArray .normal) := by
  have hlen := hl.length
  refine ⟨rfl, by simp [Frame.enter, hfn, hlen], ?_, ?_, by simp [Frame.enter, hfn, hb, SI.item], ?_, rfl, rfl, rfl, rfl⟩
  · intro t v h
    obtain ⟨_, h2⟩ := enum_look h
    obtain ⟨u, hu, hr⟩ := hl.get (i := t) (by simpa using h2)
    have hlt : t < vs.length := (List.getElem?_eq_some_iff.1 hu).1
    simp only [Frame.enter, Array.getD_eq_getD_getElem?]
    rw [Array.getElem?_append_left (by simpa using hlt)]
    simpa [hu] using hr
  · intro t v h
    obtain ⟨_, h2⟩ := enum_look h
    have := (List.getElem?_eq_some_iff.1 h2).1
    show t < xs.length + (fn.ntmps - xs.length)
    omega
  · intro x hx
    simp at hx; subst hx; trivial
end Sx
end
section
namespace Sx
open Go

section
variable {P : Program} {M : Mode} {ro : Hp} {B : Base} {f : FuncId} {R : Ending → World → Prop}

/-- A step of the machine that leaves memory alone. -/
theorem run_plain {fn : FId} {n : Nat} {sl : Slots} {td td' : List SI} {rest : List SFr} {hp : Hp} {nx : Nat}
    (h : Run P ro B f R ⟨⟨fn, n, sl, td'⟩, rest, hp, nx⟩)
    (hst : ∀ (b : Frame) (a : Act) (cs : List Frame) (w : World), step P (lone (b.atR a (td.map SI.item)) cs w) = .next (lone (b.atR a (td'.map SI.item)) cs w))
    (hok : (∀ x ∈ td, x.ok) → ∀ x ∈ td', x.ok) : Run P ro B f R ⟨⟨fn, n, sl, td⟩, rest, hp, nx⟩ := by
  refine Run.step (fun β w fr frs cs hf hfs hs => ?_) h
  refine ⟨β, w, fr.atR ⟨fr.tmps, fr.defers⟩ (td'.map SI.item), frs, .one ?_, FrRel.of hf.fn hf.rnd hf.kind hf.defers hf.size hf.slot hf.lt (hok hf.ok), hfs, hs⟩
  have := hf.at
  rw [this]; exact hst _ _ _ _

/-- The next operation of a region gives a value. -/
theorem run_op {fn : FId} {n : Nat} {sl sl' : Slots} {ops : Array Oper} {i : Nat} {o : Oper} {cur : List Oper} {tl : Option (List Nat)} {k : List SI} {rest : List SFr} {hp hp' : Hp} {nx nx' : Nat} {s : SV}
    (h : Run P ro B f R ⟨⟨fn, n, sl', .reg ops (i + 1) cur tl :: k⟩, rest, hp', nx'⟩)
    (hput : put o.dst s n sl = some sl')
    (hop : ∀ (β : Env) (w : World) (tmps : Array Value) (b : Frame) (k : List Item) (cs : List Frame) (r : List Nat) (dd : List Deferred), tmps.size = n → (∀ t v, look t sl = some v → Rel β v (tmps.getD t undef)) →
      (∀ t v, look t sl = some v → t < tmps.size) → Sat β hp ro B nx w → b.kind = kindOf fn.dfs → ops[i]? = some o →
      ∃ (β' : Env) (w' : World) (v : Value), β.le β' ∧ Sat β' hp' ro B nx' w' ∧ Rel β' s v ∧
        Steps P (lone (b.atR ⟨tmps, dd⟩ (.inRegion ops (i :: r) :: k)) cs w) (lone (b.atR (Act.put ⟨tmps, dd⟩ o.dst v) (.inRegion ops r :: k)) cs w')) :
    Run P ro B f R ⟨⟨fn, n, sl, .reg ops i (o :: cur) tl :: k⟩, rest, hp, nx⟩ := by
  refine Run.step (fun β w fr frs cs hf hfs hs => ?_) h
  have hrok := hf.ok _ (List.mem_cons_self ..)
  obtain ⟨ho, hok', hit⟩ := reg_ok hrok
  obtain ⟨β', w', v, hle, hs', hv, hst⟩ := hop β w fr.tmps fr (k.map SI.item) (frs ++ cs) (List.range' (i + 1) cur.length ++ tl.getD []) fr.defers hf.size hf.slot (by rw [hf.size]; exact hf.lt) hs hf.kind ho
  obtain ⟨p1, p2, p3⟩ := put_spec (β := β') hput hf.size (fun t v e => Rel.mono hle _ _ (hf.slot t v e)) hf.lt hv
  refine ⟨β', w', fr.atR ⟨(Act.put ⟨fr.tmps, fr.defers⟩ o.dst v).tmps, fr.defers⟩ ((SI.reg ops (i + 1) cur tl :: k).map SI.item), frs, ?_, FrRel.of hf.fn hf.rnd hf.kind (hf.defers.mono hle) p1 p3 p2 ?_, hfs.mono hle, hs'⟩
  · have := hf.at
    rw [this, ← put_eq]
    simp only [List.map_cons, hit]
    exact hst
  · intro x hx
    cases hx with
    | head => exact hok'
    | tail _ hm => exact hf.ok x (List.mem_cons_of_mem _ hm)

theorem sum_steps {dd : List Deferred} (hM : SumOk P M.sum) (hP : Named P) {β : Env} {w : World} {sl : Slots} {tmps : Array Value} (hr : Rho β sl (Act.eval ⟨tmps, dd⟩))
    {o : Oper} {cs ds : List Prop} {g : Nat} {fn : Func} {c : Code} {xs : List SV} {s : SV} (h1 : callee P sl o.op = some (cs, g, fn, c, xs)) (h2 : M.sum g xs = some (ds, s)) (hc : All cs) (hd : All ds)
    {ops : Array Oper} {i : Nat} (hw : Region.wanted o (yielded ops tmps) = true) (b : Frame) (k : List Item) (fs : List Frame) (r : List Nat) (ho : ops[i]? = some o) :
    ∃ (w' : World) (v : Value), RowKit.Below w.heap.size w w' ∧ Rel β s v ∧
        Steps P (lone (b.atR ⟨tmps, dd⟩ (.inRegion ops (i :: r) :: k)) fs w) (lone (b.atR (Act.put ⟨tmps, dd⟩ o.dst v) (.inRegion ops r :: k)) fs w') := by
  obtain ⟨hfn, hb, vs, hl, hrun⟩ := callee_run (w := w) hP hr h1 hc
  have hcall := hM _ _ _ _ h2 hd β vs w hl
  have hst := op_enter (P := P) (b := b) (a := ⟨tmps, dd⟩) (k := k) (cs := fs) (w := w) (ops := ops) (i := i) (rest := r) ho hw hrun
  obtain ⟨e, w', fr', ⟨v, rfl, hv, hbel⟩, hco, _, hlv⟩ := hcall (b.atR ⟨tmps, dd⟩ (.inRegion ops (i :: r) :: k) :: fs)
  refine ⟨w', v, hbel, hv, (Steps.one hst).trans (Steps.trans hco (.one ?_))⟩
  have hfin : (b.atR ⟨tmps, dd⟩ (.inRegion ops (i :: r) :: k)).finish v = b.atR (Act.put ⟨tmps, dd⟩ o.dst v) (.inRegion ops r :: k) := by rw [Frame.finish_atR, ho]; rfl
  rw [← hfin]
  exact step_leave_returned hlv

theorem sstep_run (hP : Named P) (hB : B.ok) (hM : SumOk P M.sum) {c c' : Cfg} {cs : List Prop} (h : sstep P M ro c = some (cs, c')) (hc : All cs) (hr : Run P ro B f R c') : Run P ro B f R c := by
  unfold sstep at h
  have tl : ∀ {x : SI} {k : List SI}, (∀ y ∈ x :: k, y.ok) → ∀ y ∈ k, y.ok := fun hh y hy => hh y (List.mem_cons_of_mem _ hy)
  have add : ∀ {x : SI} {k : List SI}, x.ok → (∀ y ∈ k, y.ok) → ∀ y ∈ x :: k, y.ok := by
    intro x k hx hk y hy
    cases hy with
    | head => exact hx
    | tail _ hm => exact hk y hm
  split at h
  · simp only [Option.some.injEq, Prod.mk.injEq] at h; obtain ⟨rfl, rfl⟩ := h
    exact run_plain hr (fun _ _ _ _ => stepR_skip) tl
  · simp only [Option.some.injEq, Prod.mk.injEq] at h; obtain ⟨rfl, rfl⟩ := h
    exact run_plain hr (fun _ _ _ _ => stepR_label) tl
  · simp only [Option.some.injEq, Prod.mk.injEq] at h; obtain ⟨rfl, rfl⟩ := h
    exact run_plain hr (fun _ _ _ _ => stepR_inBlock) tl
  · simp only [Option.some.injEq, Prod.mk.injEq] at h; obtain ⟨rfl, rfl⟩ := h
    exact run_plain hr (fun _ _ _ _ => step_lone_go (by simp [stepG, stepG.exec, Frame.atR, SI.item])) tl
  · simp only [Option.some.injEq, Prod.mk.injEq] at h; obtain ⟨rfl, rfl⟩ := h
    exact run_plain hr (fun _ _ _ _ => stepR_seq) (fun hh => add trivial (add trivial (tl hh)))
  · simp only [Option.some.injEq, Prod.mk.injEq] at h; obtain ⟨rfl, rfl⟩ := h
    exact run_plain hr (fun _ _ _ _ => stepR_block) (fun hh => add trivial (add trivial (tl hh)))
  · simp only [Option.some.injEq, Prod.mk.injEq] at h; obtain ⟨rfl, rfl⟩ := h
    exact run_plain hr (fun _ _ _ _ => step_lone_go (by simp [stepG, stepG.exec, Frame.atR, SI.item])) (fun hh => add trivial (add trivial (tl hh)))
  · -- a test
    rename_i fn n sl x a b k rest hp nx
    split at h
    · rename_i e1
      simp only [Option.some.injEq, Prod.mk.injEq] at h; obtain ⟨rfl, rfl⟩ := h
      refine Run.step (fun β w fr frs cs hf hfs hs => ?_) hr
      refine ⟨β, w, fr.atR ⟨fr.tmps, fr.defers⟩ ((SI.code a :: k).map SI.item), frs, .one ?_, FrRel.of hf.fn hf.rnd hf.kind hf.defers hf.size hf.slot hf.lt (add trivial (tl hf.ok)), hfs, hs⟩
      have he : Act.eval ⟨fr.tmps, fr.defers⟩ x = .bool true := ev_rel hf.rho e1
      have := hf.at
      rw [this]
      have := stepR_cond (P := P) (b := fr) (a := ⟨fr.tmps, fr.defers⟩) (k := k.map SI.item) (cs := frs ++ cs) (w := w) (x := a) (y := b) he
      exact this
    · rename_i e1
      simp only [Option.some.injEq, Prod.mk.injEq] at h; obtain ⟨rfl, rfl⟩ := h
      refine Run.step (fun β w fr frs cs hf hfs hs => ?_) hr
      refine ⟨β, w, fr.atR ⟨fr.tmps, fr.defers⟩ ((SI.code b :: k).map SI.item), frs, .one ?_, FrRel.of hf.fn hf.rnd hf.kind hf.defers hf.size hf.slot hf.lt (add trivial (tl hf.ok)), hfs, hs⟩
      have he : Act.eval ⟨fr.tmps, fr.defers⟩ x = .bool false := ev_rel hf.rho e1
      have := hf.at
      rw [this]
      have := stepR_cond (P := P) (b := fr) (a := ⟨fr.tmps, fr.defers⟩) (k := k.map SI.item) (cs := frs ++ cs) (w := w) (x := a) (y := b) he
      exact this
    · cases h
  · cases hu : M.unr with
    | false => rw [hu] at h; cases h
    | true =>
      rw [hu] at h
      simp only [cond_true, Option.some.injEq, Prod.mk.injEq] at h; obtain ⟨rfl, rfl⟩ := h
      exact run_plain hr (fun _ _ _ _ => stepR_loop) (fun hh => add trivial (add trivial (tl hh)))
  · cases hu : M.unr with
    | false => rw [hu] at h; cases h
    | true =>
      rw [hu] at h
      simp only [cond_true, Option.some.injEq, Prod.mk.injEq] at h; obtain ⟨rfl, rfl⟩ := h
      exact run_plain hr (fun _ _ _ _ => stepR_inLoop) (fun hh => add trivial (add trivial (tl hh)))
  · split at h <;> first | exact (none_ne h).elim | skip
    rename_i k' e1
    simp only [Option.some.injEq, Prod.mk.injEq] at h; obtain ⟨rfl, rfl⟩ := h
    obtain ⟨h1, h2⟩ := exitS_spec e1
    exact run_plain hr (fun _ _ _ _ => stepR_exit h1) (fun hh y hy => tl hh y (h2 y hy))
  · simp only [Option.some.injEq, Prod.mk.injEq] at h; obtain ⟨rfl, rfl⟩ := h
    refine run_plain hr (fun _ _ _ _ => ?_) (fun hh => add (by intro i hi; simp at hi; simp [hi]) (tl hh))
    simp only [List.map_cons, SI.item, Array.length_toList, ← List.range_eq_range', Option.getD_none, List.append_nil]
    exact stepR_region
  · rename_i fn n sl ops i k rest hp nx
    have fin : ∀ {sl'}, (∀ t v, look t sl' = some v → look t sl = some v) → Run P ro B f R ⟨⟨fn, n, sl', k⟩, rest, hp, nx⟩ → Run P ro B f R ⟨⟨fn, n, sl, .reg ops i [] none :: k⟩, rest, hp, nx⟩ := by
      intro sl' hsub hr
      refine Run.step (fun β w fr frs cs hf hfs hs => ?_) hr
      refine ⟨β, w, fr.atR ⟨fr.tmps, fr.defers⟩ (k.map SI.item), frs, .one ?_, FrRel.of hf.fn hf.rnd hf.kind hf.defers hf.size (fun t v e => hf.slot t v (hsub t v e)) (fun t v e => hf.lt t v (hsub t v e)) (tl hf.ok), hfs, hs⟩
      have := hf.at
      rw [this]
      exact stepR_region_end
    split at h
    · simp only [Option.some.injEq, Prod.mk.injEq] at h; obtain ⟨rfl, rfl⟩ := h
      exact fin (fun _ _ e => e) hr
    · split at h <;> first | exact (none_ne h).elim | skip
      rename_i e1
      simp only [Option.some.injEq, Prod.mk.injEq] at h; obtain ⟨rfl, rfl⟩ := h
      exact fin (fun _ _ e => thin_spec e1 e) hr
  · -- a return into a caller
    rename_i f' n sl td cfn cn csl ops i o cur tl' k rest hp nx
    split at h <;> first | exact (none_ne h).elim | skip
    rename_i cs1 v e1
    split at h <;> first | exact (none_ne h).elim | skip
    rename_i csl' e2
    simp only [Option.some.injEq, Prod.mk.injEq] at h; obtain ⟨rfl, rfl⟩ := h
    refine Run.step (fun β w fr frs cs hf hfs hs => ?_) hr
    cases hfs with
    | cons hc1 hfs' =>
    rename_i cfr frs'
    have hc1 : FrRel β _ cfr := hc1
    obtain ⟨fd, u, hfd, hres, hru⟩ := resV_run hs (hf.rho (ds := [])) e1 hc
    obtain ⟨ho, hok', hit⟩ := reg_ok (hc1.ok _ (List.mem_cons_self ..))
    obtain ⟨p1, p2, p3⟩ := put_spec (ds := cfr.defers) e2 hc1.size hc1.slot hc1.lt hru
    refine ⟨β, w, cfr.atR ⟨(Act.put ⟨cfr.tmps, cfr.defers⟩ o.dst u).tmps, cfr.defers⟩ ((SI.reg ops (i + 1) cur tl' :: k).map SI.item), frs', ?_, FrRel.of hc1.fn hc1.rnd hc1.kind hc1.defers p1 p3 p2 (add hok' (tl hc1.ok)), hfs', hs⟩
    have e3 := hf.at
    have e4 := hc1.at
    rw [e3]
    simp only [List.map_cons, List.map_nil, SI.item]
    refine Steps.head (stepR_ret (by exact hf.rnd)) (.one ?_)
    have hlv : Frame.leaving P ({ fr.atR ⟨fr.tmps, fr.defers⟩ (.code .ret :: td.map SI.item) with mode := .returning } : Frame) w (.returned u) :=
      ⟨rfl, hf.defers, hf.kind, fd, by show P.funcs[fr.fn]? = _; rw [hf.fn]; exact hfd, hres⟩
    have := step_leave_returned (c := cfr) (cs := frs' ++ cs) hlv
    rw [List.cons_append]
    refine Eq.trans this ?_
    congr 2
    rw [e4, ← put_eq]
    simp only [List.map_cons, hit]
    rw [Frame.finish_atR, ho]; rfl
  · -- a return into a caller
    rename_i f' n sl cfn cn csl ops i o cur tl' k rest hp nx
    split at h <;> first | exact (none_ne h).elim | skip
    rename_i cs1 v e1
    split at h <;> first | exact (none_ne h).elim | skip
    rename_i csl' e2
    simp only [Option.some.injEq, Prod.mk.injEq] at h; obtain ⟨rfl, rfl⟩ := h
    refine Run.step (fun β w fr frs cs hf hfs hs => ?_) hr
    cases hfs with
    | cons hc1 hfs' =>
    rename_i cfr frs'
    have hc1 : FrRel β _ cfr := hc1
    obtain ⟨fd, u, hfd, hres, hru⟩ := resV_run hs (hf.rho (ds := [])) e1 hc
    obtain ⟨ho, hok', hit⟩ := reg_ok (hc1.ok _ (List.mem_cons_self ..))
    obtain ⟨p1, p2, p3⟩ := put_spec (ds := cfr.defers) e2 hc1.size hc1.slot hc1.lt hru
    refine ⟨β, w, cfr.atR ⟨(Act.put ⟨cfr.tmps, cfr.defers⟩ o.dst u).tmps, cfr.defers⟩ ((SI.reg ops (i + 1) cur tl' :: k).map SI.item), frs', ?_, FrRel.of hc1.fn hc1.rnd hc1.kind hc1.defers p1 p3 p2 (add hok' (tl hc1.ok)), hfs', hs⟩
    have e3 := hf.at
    have e4 := hc1.at
    rw [e3]
    simp only [List.map_cons, List.map_nil, SI.item]
    refine Steps.head (stepR_end (by exact hf.rnd)) (.one ?_)
    have hlv : Frame.leaving P ({ fr.atR ⟨fr.tmps, fr.defers⟩ [] with mode := .returning } : Frame) w (.returned u) :=
      ⟨rfl, hf.defers, hf.kind, fd, by show P.funcs[fr.fn]? = _; rw [hf.fn]; exact hfd, hres⟩
    have := step_leave_returned (c := cfr) (cs := frs' ++ cs) hlv
    rw [List.cons_append]
    refine Eq.trans this ?_
    congr 2
    rw [e4, ← put_eq]
    simp only [List.map_cons, hit]
    rw [Frame.finish_atR, ho]; rfl
  · -- an operation
    rename_i fn n sl ops i o cur tl' k rest hp nx
    split at h <;> first | exact (none_ne h).elim | skip
    · -- it is passed over
      rename_i e0
      split at h <;> first | exact (none_ne h).elim | skip
      rename_i sl' e1
      simp only [Option.some.injEq, Prod.mk.injEq] at h; obtain ⟨rfl, rfl⟩ := h
      refine run_op hr e1 (fun β w tmps b k' fs r dd hn hsl hlt hs hk ho => ?_)
      have hw := guard_rel e0 hn hsl hlt
      exact ⟨β, w, undef, Env.le_refl _, hs, ⟨fun e => Bool.noConfusion e, fun _ => rfl⟩, .one (op_pass ho hw)⟩
    · -- it may run
      rename_i g e0
      split at h
      · rename_i cs1 v e1
        split at h <;> first | exact (none_ne h).elim | skip
        rename_i sl' e2
        simp only [Option.some.injEq, Prod.mk.injEq] at h; obtain ⟨rfl, rfl⟩ := h
        refine run_op hr e2 (fun β w tmps b k' fs r dd hn hsl hlt hs hk ho => ?_)
        have hw := guard_rel e0 hn hsl hlt
        have hrho : Rho β sl (Act.eval ⟨tmps, dd⟩) := ⟨hsl, fun _ => rfl, fun _ => rfl⟩
        cases g with
        | false => exact ⟨β, w, undef, Env.le_refl _, hs, ⟨fun e => Bool.noConfusion e, fun _ => rfl⟩, .one (op_pass ho hw)⟩
        | true =>
          have hc1 : All cs1 := fun p hp' => hc _ (List.mem_map_of_mem hp') rfl
          unfold quietAll at e1
          split at e1
          · rename_i q eq
            injection e1 with e1; subst e1
            obtain ⟨u, hu, hru⟩ := quiet_run (P := P) hs.toMem hrho eq hc1
            exact ⟨β, w, u, Env.le_refl _, hs, ⟨fun _ => hru, fun e => Bool.noConfusion e⟩, .one (op_value ho hw hu)⟩
          · obtain ⟨u, hu, hru⟩ := quiet2_run (P := P) (w := w) hrho e1 hc1
            exact ⟨β, w, u, Env.le_refl _, hs, ⟨fun _ => hru, fun e => Bool.noConfusion e⟩, .one (op_value ho hw hu)⟩
      · split at h <;> first | exact (none_ne h).elim | skip
        rename_i cs1 ff gg cc xs e1
        split at h <;> first | exact (none_ne h).elim | skip
        rename_i ds v e2
        split at h <;> first | exact (none_ne h).elim | skip
        rename_i sl' e3
        simp only [Option.some.injEq, Prod.mk.injEq] at h; obtain ⟨rfl, rfl⟩ := h
        refine run_op hr e3 (fun β w tmps b k' fs r dd hn hsl hlt hs hk ho => ?_)
        have hw := guard_rel e0 hn hsl hlt
        have hrho : Rho β sl (Act.eval ⟨tmps, dd⟩) := ⟨hsl, fun _ => rfl, fun _ => rfl⟩
        cases g with
        | false => exact ⟨β, w, undef, Env.le_refl _, hs, ⟨fun e => Bool.noConfusion e, fun _ => rfl⟩, .one (op_pass ho hw)⟩
        | true =>
          have hc1 : All (cs1 ++ ds) := fun p hp' => hc _ (List.mem_map_of_mem hp') rfl
          obtain ⟨w', u, hbel, hru, hst⟩ := sum_steps hM hP hrho e1 e2 hc1.left hc1.right hw b k' fs r ho
          exact ⟨β, w', u, Env.le_refl _, hs.below hbel, ⟨fun _ => hru, fun e => Bool.noConfusion e⟩, hst⟩
    · -- it runs
      rename_i e0
      split at h
      · rename_i cs1 v e1
        split at h <;> first | exact (none_ne h).elim | skip
        rename_i sl' e2
        simp only [Option.some.injEq, Prod.mk.injEq] at h; obtain ⟨rfl, rfl⟩ := h
        refine run_op hr e2 (fun β w tmps b k' fs r dd hn hsl hlt hs hk ho => ?_)
        have hw := guard_rel e0 hn hsl hlt
        have hrho : Rho β sl (Act.eval ⟨tmps, dd⟩) := ⟨hsl, fun _ => rfl, fun _ => rfl⟩
        unfold quietAll at e1
        split at e1
        · rename_i q eq
          injection e1 with e1; subst e1
          obtain ⟨u, hu, hru⟩ := quiet_run (P := P) hs.toMem hrho eq hc
          exact ⟨β, w, u, Env.le_refl _, hs, hru, .one (op_value ho hw hu)⟩
        · obtain ⟨u, hu, hru⟩ := quiet2_run (P := P) (w := w) hrho e1 hc
          exact ⟨β, w, u, Env.le_refl _, hs, hru, .one (op_value ho hw hu)⟩
      · split at h
        · rename_i v hp' nx' cs1 e1
          split at h <;> first | exact (none_ne h).elim | skip
          rename_i sl' e2
          rw [natF_eq] at h
          simp only [Option.some.injEq, Prod.mk.injEq] at h; obtain ⟨rfl, rfl⟩ := h
          refine run_op hr e2 (fun β w tmps b k' fs r dd hn hsl hlt hs hk ho => ?_)
          have hw := guard_rel e0 hn hsl hlt
          have hrho : Rho β sl (Act.eval ⟨tmps, dd⟩) := ⟨hsl, fun _ => rfl, fun _ => rfl⟩
          obtain ⟨β', w', hle, hs', u, hu, hru⟩ := loud_run hs hB hrho e1 hc
          exact ⟨β', w', u, hle, hs', hru, .one (op_value ho hw hu)⟩
        · rename_i hp' nx' cs1 e1
          split at h <;> first | exact (none_ne h).elim | skip
          rename_i sl' e2
          rw [natF_eq] at h
          simp only [Option.some.injEq, Prod.mk.injEq] at h; obtain ⟨rfl, rfl⟩ := h
          refine run_op hr e2 (fun β w tmps b k' fs r dd hn hsl hlt hs hk ho => ?_)
          have hw := guard_rel e0 hn hsl hlt
          have hrho : Rho β sl (Act.eval ⟨tmps, dd⟩) := ⟨hsl, fun _ => rfl, fun _ => rfl⟩
          obtain ⟨β', w', hle, hs', hu⟩ := loud_run hs hB hrho e1 hc
          exact ⟨β', w', undef, hle, hs', trivial, .one (op_unit ho hw hu)⟩
        · split at h <;> first | exact (none_ne h).elim | skip
          rename_i cs1 ff gg cc xs e1
          split at h
          · rename_i ds v e2
            split at h <;> first | exact (none_ne h).elim | skip
            rename_i sl' e3
            simp only [Option.some.injEq, Prod.mk.injEq] at h; obtain ⟨rfl, rfl⟩ := h
            refine run_op hr e3 (fun β w tmps b k' fs r dd hn hsl hlt hs hk ho => ?_)
            have hw := guard_rel e0 hn hsl hlt
            have hrho : Rho β sl (Act.eval ⟨tmps, dd⟩) := ⟨hsl, fun _ => rfl, fun _ => rfl⟩
            obtain ⟨w', u, hbel, hru, hst⟩ := sum_steps hM hP hrho e1 e2 hc.left hc.right hw b k' fs r ho
            exact ⟨β, w', u, Env.le_refl _, hs.below hbel, hru, hst⟩
          · cases hin : M.inl ff with
            | false => rw [hin] at h; cases h
            | true =>
              rw [hin] at h
              simp only [cond_true, Option.some.injEq, Prod.mk.injEq] at h; obtain ⟨rfl, rfl⟩ := h
              refine Run.step (fun β w fr frs cs hf hfs hs => ?_) hr
              obtain ⟨ho, hok', hit⟩ := reg_ok (hf.ok _ (List.mem_cons_self ..))
              have hw := guard_rel e0 hf.size hf.slot (by rw [hf.size]; exact hf.lt)
              obtain ⟨hfn, hb, vs, hl, hrun⟩ := callee_run (w := w) hP hf.rho e1 hc
              refine ⟨β, w, Frame.enter P ff vs.toArray .normal, fr :: frs, .one ?_, enter_rel hfn hb hl, .cons hf hfs, hs⟩
              have e3 := hf.at
              have := op_enter (P := P) (b := fr) (a := ⟨fr.tmps, fr.defers⟩) (k := k.map SI.item) (cs := frs ++ cs) (w := w) (ops := ops) (i := i) (rest := List.range' (i + 1) cur.length ++ tl'.getD []) ho hw hrun
              rw [← hit] at this
              rw [List.cons_append]
              rw [e3]
              exact this
  · cases h
end
end Sx
end
section
namespace Sx
open Go

def conj : List Prop → Prop
  | [] => True
  | p :: ps => p ∧ conj ps
theorem all_conj : ∀ {cs : List Prop}, conj cs → All cs
  | [], _ => All.nil
  | _ :: _, h => All.cons h.1 (all_conj h.2)

section
variable {P : Program} {M : Mode} {ro : Hp} {B : Base} {f : FuncId} {R : Ending → World → Prop}

/-- A test that is not decided. -/
theorem run_cond {fn : FId} {n : Nat} {sl : Slots} {x : Operand} {a b : Code} {k : List SI} {rest : List SFr} {hp : Hp} {nx : Nat} {t : Bool} (hx : ev sl x = some (.sb t))
    (h1 : t = true → Run P ro B f R ⟨⟨fn, n, sl, .code a :: k⟩, rest, hp, nx⟩) (h2 : t = false → Run P ro B f R ⟨⟨fn, n, sl, .code b :: k⟩, rest, hp, nx⟩) :
    Run P ro B f R ⟨⟨fn, n, sl, .code (.cond x a b) :: k⟩, rest, hp, nx⟩ := by
  have main : ∀ (c : Code) (tt : Bool), t = tt → (if tt then a else b) = c → Run P ro B f R ⟨⟨fn, n, sl, .code c :: k⟩, rest, hp, nx⟩ → Run P ro B f R ⟨⟨fn, n, sl, .code (.cond x a b) :: k⟩, rest, hp, nx⟩ := by
    intro c tt ht hcc hr
    refine Run.step (fun β w fr frs cs hf hfs hs => ?_) hr
    refine ⟨β, w, fr.atR ⟨fr.tmps, fr.defers⟩ ((SI.code c :: k).map SI.item), frs, .one ?_, FrRel.of hf.fn hf.rnd hf.kind hf.defers hf.size hf.slot hf.lt ?_, hfs, hs⟩
    · have he : Act.eval ⟨fr.tmps, fr.defers⟩ x = .bool tt := by rw [← ht]; exact ev_rel hf.rho hx
      have := hf.at
      rw [this]
      have := stepR_cond (P := P) (b := fr) (a := ⟨fr.tmps, fr.defers⟩) (k := k.map SI.item) (cs := frs ++ cs) (w := w) (x := a) (y := b) he
      rw [hcc] at this
      exact this
    · intro y hy
      cases hy with
      | head => trivial
      | tail _ hm => exact hf.ok y (List.mem_cons_of_mem _ hm)
  cases ht : t with
  | true => exact main a true ht rfl (h1 ht)
  | false => exact main b false ht rfl (h2 ht)

/-- Other slots that hold where these hold. -/
theorem run_slots {fn : FId} {n : Nat} {sl sl' : Slots} {td : List SI} {rest : List SFr} {hp : Hp} {nx : Nat}
    (h : ∀ (β : Env) (g : Nat → Value), (∀ t v, look t sl = some v → Rel β v (g t)) → ∀ t v, look t sl' = some v → Rel β v (g t) ∧ ∃ u, look t sl = some u)
    (hr : Run P ro B f R ⟨⟨fn, n, sl', td⟩, rest, hp, nx⟩) : Run P ro B f R ⟨⟨fn, n, sl, td⟩, rest, hp, nx⟩ := by
  intro β w fr frs cs hf hfs hs
  refine hr β w fr frs cs { hf with slot := fun t v e => (h β (fun t => fr.tmps.getD t undef) hf.slot t v e).1, lt := fun t v e => ?_ } hfs hs
  obtain ⟨u, hu⟩ := (h β (fun t => fr.tmps.getD t undef) hf.slot t v e).2
  exact hf.lt t u hu

def setSlot (t : Nat) (v : SV) : Slots → Slots
  | [] => []
  | (i, u) :: r => bif Nat.beq t i then (i, v) :: r else (i, u) :: setSlot t v r
theorem run_loop {fn : FId} {n : Nat} {sl : Slots} {a : Code} {k : List SI} {rest : List SFr} {hp : Hp} {nx : Nat} (hr : Run P ro B f R ⟨⟨fn, n, sl, .code a :: .loop a :: k⟩, rest, hp, nx⟩) :
    Run P ro B f R ⟨⟨fn, n, sl, .code (.loop a) :: k⟩, rest, hp, nx⟩ :=
  run_plain hr (fun _ _ _ _ => stepR_loop) (fun hh y hy => by
    cases hy with
    | head => trivial
    | tail _ hm => cases hm with
      | head => trivial
      | tail _ hm => exact hh y (List.mem_cons_of_mem _ hm))
theorem run_back {fn : FId} {n : Nat} {sl : Slots} {a : Code} {k : List SI} {rest : List SFr} {hp : Hp} {nx : Nat} (hr : Run P ro B f R ⟨⟨fn, n, sl, .code a :: .loop a :: k⟩, rest, hp, nx⟩) :
    Run P ro B f R ⟨⟨fn, n, sl, .loop a :: k⟩, rest, hp, nx⟩ :=
  run_plain hr (fun _ _ _ _ => stepR_inLoop) (fun hh y hy => by
    cases hy with
    | head => trivial
    | tail _ hm => exact hh y hm)

/-- The end of the lowest frame. -/
theorem run_retK {n : Nat} {sl : Slots} {td : List SI} {hp : Hp} {nx : Nat} {cs : List Prop} {v : SV} (hv : resV P f sl hp ro = some (cs, v)) (hc : conj cs)
    (hR : ∀ (β : Env) (w : World) (u : Value), Sat β hp ro B nx w → Rel β v u → R (.returned u) w) (hk : B.kd = Kind.norm) : Run P ro B f R ⟨⟨fid f, n, sl, .code .ret :: td⟩, [], hp, nx⟩ := by
  intro β w fr frs cs' hf hfs hs _
  cases hfs
  obtain ⟨fd, u, hfd, hres, hru⟩ := resV_run hs (hf.rho (ds := [])) hv (all_conj hc)
  refine ⟨.returned u, w, { fr.atR ⟨fr.tmps, fr.defers⟩ (.code .ret :: td.map SI.item) with mode := .returning }, hR β w u hs hru, ?_, hf.fn, by rw [hk]; exact hf.kind, ?_⟩
  · have := hf.at
    rw [this, hk]
    exact .one (stepR_ret hf.rnd)
  · exact ⟨rfl, hf.defers, fd, by show P.funcs[fr.fn]? = _; rw [hf.fn]; exact hfd, hres⟩

/-- A call, from its first step. -/
theorem calls_of_run {fn : Func} {c : Code} {β : Env} {xs : List SV} {vs : List Value} {w : World} {hp : Hp} {nx : Nat} (hfn : P.funcs[f]? = some fn) (hb : fn.body = some c) (hl : RelL β xs vs) (hs : Sat β hp ro B nx w)
    (hr : Run P ro B f R ⟨⟨fid f, xs.length + (fn.ntmps - xs.length), enumFrom 0 xs, [.code c]⟩, [], hp, nx⟩) (hk : B.kd = Kind.norm) : Calls P f vs.toArray w R := by
  intro cs
  obtain ⟨e, w', fr', h1, h2, h3, h4, h5⟩ := hr β w _ [] cs (enter_rel hfn hb hl) .nil hs (by rw [hk]; trivial)
  rw [hk] at h2 h4
  exact ⟨e, w', fr', h1, h2, h3, Frame.out_leaving h5 h4⟩
end

/-- All old blocks. -/
def Base.all (w : World) : Base := ⟨fun b => w.heap[b]?, w, Env.nil, Kind.norm⟩
theorem Base.all_ok (w : World) : (Base.all w).ok := fun b o h => (Array.getElem?_eq_some_iff.1 h).1
theorem sat_all (w : World) : Sat Env.nil [] [] (Base.all w) 0 w :=
  ⟨⟨fun _ _ h => (none_ne h).elim, fun _ _ _ _ h => (none_ne h).elim, fun _ _ h => (none_ne h).elim, fun _ _ h => h, rfl, rfl, rfl, Nat.le_refl _, Env.le_refl _⟩, fun _ _ => rfl⟩
theorem Sat.below_all {β : Env} {hp ro : Hp} {nx : Nat} {w w' : World} (hs : Sat β hp ro (Base.all w) nx w') : RowKit.Below w.heap.size w w' := by
  refine ⟨hs.os, hs.tape, hs.output, hs.size, fun k hk => ?_⟩
  have h : w.heap[k]? = some w.heap[k] := Array.getElem?_eq_getElem hk
  rw [h]; exact hs.old k _ h

mutual
def SV.closed : SV → Bool
  | .ptr .. | .ep .. | .sl .. | .sq .. | .mp .. => false
  | .cnd _ s => s.closed
  | .agg vs => closedL vs
  | .tup vs => closedL vs
  | .clo _ a c => closedL a && closedL c
  | .ifc _ s => s.closed
  | _ => true
def closedL : List SV → Bool
  | [] => true
  | v :: r => v.closed && closedL r
end
mutual
theorem Rel.closed {β β' : Env} : ∀ (s : SV) (v : Value), s.closed = true → Rel β s v → Rel β' s v
  | .int _ _, _, _, r => r
  | .tt, _, _, r => r
  | .ff, _, _, r => r
  | .sb _, _, _, r => r
  | .cnd _ s, v, h, r => ⟨fun g => Rel.closed s v (by simpa [SV.closed] using h) (r.1 g), r.2⟩
  | .ptr .., _, h, _ => by simp [SV.closed] at h
  | .ep .., _, h, _ => by simp [SV.closed] at h
  | .nil, _, _, r => r
  | .sl .., _, h, _ => by simp [SV.closed] at h
  | .sq .., _, h, _ => by simp [SV.closed] at h
  | .nilsl, _, _, r => r
  | .mp _, _, h, _ => by simp [SV.closed] at h
  | .nilmp, _, _, r => r
  | .agg vs, v, h, r => by obtain ⟨us, e, hl⟩ := r; exact ⟨us, e, RelL.closed vs us (by simpa [SV.closed] using h) hl⟩
  | .tup vs, v, h, r => by obtain ⟨us, e, hl⟩ := r; exact ⟨us, e, RelL.closed vs us (by simpa [SV.closed] using h) hl⟩
  | .clo _ a c, v, h, r => by
    obtain ⟨us, ws, e, hl, hm⟩ := r
    simp only [SV.closed, Bool.and_eq_true] at h
    exact ⟨us, ws, e, RelL.closed a us h.1 hl, RelL.closed c ws h.2 hm⟩
  | .nilf, _, _, r => r
  | .ifc _ s, v, h, r => by obtain ⟨u, e, hl⟩ := r; exact ⟨u, e, Rel.closed s u (by simpa [SV.closed] using h) hl⟩
  | .nilif, _, _, r => r
  | .str _, _, _, r => r
  | .val _, _, _, r => r
  | .und, _, _, r => r
theorem RelL.closed {β β' : Env} : ∀ (s : List SV) (v : List Value), closedL s = true → RelL β s v → RelL β' s v
  | [], _, _, r => r
  | s :: ss, us, h, r => by
    obtain ⟨v, vs, e, hv, hl⟩ := r
    simp only [closedL, Bool.and_eq_true] at h
    exact ⟨v, vs, e, Rel.closed s v h.1 hv, RelL.closed ss vs h.2 hl⟩
end

/-- What a call that only computes gives: r, in whatever memory. -/
def Gives (w : World) (r : SV) (e : Ending) (w' : World) : Prop := ∃ v, e = .returned v ∧ Rel Env.nil r v ∧ RowKit.Below w.heap.size w w'

/-- A call that only computes. -/
def Pure (P : Program) (f : FuncId) (xs : List SV) (r : SV) : Prop := ∀ vs w, RelL Env.nil xs vs → Calls P f vs.toArray w (Gives w r)

abbrev SumL := List (Nat × (List SV → Option (List Prop × SV)))
def sumOf : SumL → Sum
  | [], _, _ => none
  | (g, F) :: r, f, xs => bif Nat.beq f g then F xs else sumOf r f xs
/-- One callee's word. -/
def PureOk (P : Program) (f : FuncId) (F : List SV → Option (List Prop × SV)) : Prop := ∀ xs cs r, F xs = some (cs, r) → All cs → closedL xs = true ∧ Pure P f xs r
theorem sumOk_nil (P : Program) : SumOk P (sumOf []) := fun f xs cs r h => by cases h
end Sx
end
