/- An append, whatever room it finds: it follows the model's. No condition. -/
import Derived.Test.YtpjabkjacldgcaaEngA
namespace Sx
open Go

theorem elems_live {off s sz m : Nat} {so : SO} {cs : List Prop} {g : Nat → Nat → SV} (h : elems off s sz m so = some (cs, g)) (hc : All cs) (hm : 0 < m) : so.Live := by
  cases so with
  | row off' n cap sz' f ty =>
    simp only [elems] at h
    obtain ⟨h1, h2⟩ := bif_some h
    simp only [Prod.mk.injEq] at h2
    obtain ⟨rfl, rfl⟩ := h2
    obtain ⟨_, k1⟩ : off = off' ∧ s + m ≤ n := hc.head
    show 0 < n
    omega
  | cells => trivial
  | obj => trivial
  | lp => trivial

theorem elems_cells {β : Env} {off s sz m j b : Nat} {hp ro : Hp} {B : Base} {w : World} (hs : Mem β hp ro B w) {so : SO} (hso : hgetE j hp ro = some so) (hβ : β j = some b) {cs : List Prop} {g : Nat → Nat → SV}
    (he : elems off s sz m so = some (cs, g)) (hc : All cs) (hsz : 0 < sz) (hm : 0 < m) :
    ∃ news : List Value, news.length = m * sz ∧ (∀ k u, news[k]? = some u → w.cell? ((⟨b, off + s * sz, none⟩ : Addr).add k) = some u) ∧ (∀ u ∈ news, u.oneCell' = true) ∧
      ∀ i k, i < m → k < sz → ∃ u, news[i * sz + k]? = some u ∧ Rel β (g i k) u := by
  have hlive := elems_live he hc hm
  have hob : ∃ ob, w.heap[b]? = some ob ∧ ORel β so ob := by
    unfold hgetE at hso
    split at hso
    · rename_i s' hs'
      injection hso with hso; subst hso
      obtain ⟨b', ob, g1, g2, g3, g4, g5⟩ := hs.own _ _ hs' hlive
      rw [hβ] at g1; injection g1 with g1; subst g1
      exact ⟨ob, g3, g4⟩
    · obtain ⟨b', ob, g1, g2, g3⟩ := hs.read _ _ hso hlive
      rw [hβ] at g1; injection g1 with g1; subst g1
      exact ⟨ob, hs.old _ _ g2, g3⟩
  obtain ⟨ob, hob, hor⟩ := hob
  obtain ⟨c, ty, fz, rfl, hbd, hel⟩ := elems_rel he hc hor
  refine ⟨(c.toList.drop (off + s * sz)).take (m * sz), ?_, ?_, ?_, ?_⟩
  · simp only [List.length_take, List.length_drop, Array.length_toList]
    rw [Nat.add_mul] at hbd; omega
  · intro k u hu
    have hk : k < m * sz := by
      rcases Nat.lt_or_ge k (m * sz) with q | q
      · exact q
      · rw [List.getElem?_eq_none (by simp; omega)] at hu; cases hu
    rw [Addr.add_lit, cell_of_row w b _ c ty fz hob]
    rw [List.getElem?_take, if_pos hk, List.getElem?_drop] at hu
    simpa using hu
  · intro u hu
    obtain ⟨k, hk, rfl⟩ := List.mem_iff_getElem.1 hu
    have hk' : k < m * sz := by simp at hk; omega
    have hi : k / sz < m := Nat.div_lt_of_lt_mul (by rw [Nat.mul_comm]; exact hk')
    obtain ⟨x, hx1, hx2, hx3⟩ := hel (k / sz) (k % sz) hi (Nat.mod_lt _ hsz)
    have e1 : off + (s + k / sz) * sz + k % sz = off + s * sz + k := by
      rw [Nat.add_mul]
      have := Nat.div_add_mod k sz
      rw [Nat.mul_comm] at this; omega
    rw [e1] at hx1
    have : ((c.toList.drop (off + s * sz)).take (m * sz))[k]? = some x := by
      rw [List.getElem?_take, if_pos hk', List.getElem?_drop]; simpa using hx1
    rw [List.getElem?_eq_getElem hk] at this
    injection this with this
    rw [this]; exact storable_one hx3 hx2
  · intro i k hi hk
    obtain ⟨u, hu1, hu2, _⟩ := hel i k hi hk
    refine ⟨u, ?_, hu2⟩
    have hlt : i * sz + k < m * sz := by
      have : (i + 1) * sz ≤ m * sz := Nat.mul_le_mul_right _ hi
      rw [Nat.add_mul] at this; omega
    rw [List.getElem?_take, if_pos hlt, List.getElem?_drop]
    rw [← hu1, Nat.add_mul]
    simp; congr 1; omega

/-- m elements that are appended. -/
structure News (β : Env) (w : World) (sz m : Nat) (g : Nat → Nat → SV) (v : Value) (news : List Value) : Prop where
  v : ∃ ba c, v = .slice ba m c ∧ (0 < m → ∃ a, ba = some a ∧ ∀ j u, news[j]? = some u → w.cell? (a.add j) = some u)
  len : news.length = m * sz
  one : ∀ u ∈ news, u.oneCell' = true
  rel : ∀ i k, i < m → k < sz → ∃ u, news[i * sz + k]? = some u ∧ Rel β (g i k) u

theorem News.none {β : Env} {w : World} {sz : Nat} {g : Nat → Nat → SV} (ba : Option Addr) (c : Nat) : News β w sz 0 g (.slice ba 0 c) [] :=
  ⟨⟨ba, c, rfl, fun h => by omega⟩, by simp, fun _ h => (by cases h), fun i k hi => by omega⟩

theorem appNew_rel {β : Env} {sz : Nat} {hp ro : Hp} {B : Base} {w : World} (hs : Mem β hp ro B w) {x : SV} {v : Value} {cs : List Prop} {m : Nat} {g : Nat → Nat → SV} (h : appNew sz hp ro x = some (cs, m, g)) (hc : All cs) (hx : Rel β x v) (hsz : 0 < sz) :
    ∃ news, News β w sz m g v news := by
  unfold appNew at h
  split at h <;> first | exact (none_ne h).elim | skip
  · simp only [Option.some.injEq, Prod.mk.injEq] at h
    obtain ⟨rfl, rfl, rfl⟩ := h
    simp only [Rel] at hx; subst hx
    exact ⟨[], News.none _ _⟩
  · rename_i j off s sz' m' cap'
    split at h <;> first | exact (none_ne h).elim | skip
    rename_i so hso
    cases hb : Nat.beq sz sz' with
    | false => rw [hb] at h; cases h
    | true =>
    rw [hb] at h; simp only [cond_true] at h
    have := beq_nat hb; subst this
    split at h <;> first | exact (none_ne h).elim | skip
    rename_i cs' g' he
    simp only [Option.some.injEq, Prod.mk.injEq] at h
    obtain ⟨rfl, rfl, rfl⟩ := h
    obtain ⟨b, o, hβ, room, rfl, hle, hcr, ho⟩ := hx
    by_cases hm : 0 < m'
    · obtain ⟨news, n1, n2, n3, n4⟩ := elems_cells hs hso hβ he hc hsz hm
      rw [← ho (by omega)] at n2
      exact ⟨news, ⟨_, _, rfl, fun _ => ⟨_, rfl, n2⟩⟩, n1, n3, n4⟩
    · have : m' = 0 := by omega
      subst this
      exact ⟨[], News.none _ _⟩
  · rename_i j off s sz' m' ap
    split at h <;> first | exact (none_ne h).elim | skip
    rename_i so hso
    cases hb : Nat.beq sz sz' with
    | false => rw [hb] at h; cases h
    | true =>
    rw [hb] at h; simp only [cond_true] at h
    have := beq_nat hb; subst this
    split at h <;> first | exact (none_ne h).elim | skip
    rename_i cs' g' he
    simp only [Option.some.injEq, Prod.mk.injEq] at h
    obtain ⟨rfl, rfl, rfl⟩ := h
    obtain ⟨base, room, rfl, h1, h2, h3, h4⟩ := hx
    by_cases hm : 0 < m'
    · obtain ⟨h5, b, hβ, rfl, _⟩ := h4 hm
      obtain ⟨news, n1, n2, n3, n4⟩ := elems_cells hs hso hβ he hc hsz hm
      exact ⟨news, ⟨_, _, rfl, fun _ => ⟨_, rfl, n2⟩⟩, n1, n3, n4⟩
    · have : m' = 0 := by omega
      subst this
      exact ⟨[], News.none _ _⟩

theorem News.src {P : Program} {β : Env} {w : World} {sz m : Nat} {g : Nat → Nat → SV} {v : Value} {news : List Value} (h : News β w sz m g v news) {t e : TypeId} (ht : P.underlying t = some (.slice e)) : Src P sz t v m news w := by
  obtain ⟨ba, c, rfl, h1⟩ := h.v
  by_cases hm : 0 < m
  · obtain ⟨a, rfl, h2⟩ := h1 hm
    exact Src.ofSlice w ht a m c news h.len h2 h.one
  · have : m = 0 := by omega
    subst this
    have hl := h.len
    simp only [Nat.zero_mul, List.length_eq_zero_iff] at hl; subst hl
    cases ba with
    | none => exact Src.ofNil w ht c
    | some a => exact Src.ofSlice w ht a 0 c [] (by simp) (fun j u hu => by simp at hu) (fun u hu => by cases hu)

/-- The slice that is appended to. -/
structure Olds (P : Program) (β : Env) (hp : Hp) (w : World) (e : TypeId) (sz n m : Nat) (f : Nat → Nat → SV) (ks : List Nat) (v : Value) (olds : List Value) : Prop where
  len : olds.length = n * sz
  rel : ∀ i k, i < n → k < sz → ∃ u, olds[i * sz + k]? = some u ∧ Rel β (f i k) u
  v : ∃ ba room, v = .slice ba n room ∧ n ≤ room ∧ (Builtin.firstCells sz n v).run P w.drew = .ok olds.toArray w.drew ∧ (n = 0 → room = 0) ∧
    ((ks = [] ∧ room = n ∧ (m = 0 → n = 0)) ∨ (∃ i o, ks = [i] ∧ hget i hp = some o ∧ (0 < n → o.Live ∧ ∃ b cur, β i = some b ∧ ba = some ⟨b, 0, none⟩ ∧ w.heap[b]? = some (.cells cur e (0, 0)) ∧ room * sz ≤ β.room i ∧ room * sz ≤ cur.size ∧ olds = cur.toList.take (n * sz))))

theorem olds_take {P : Program} {w : World} {b : Nat} {cur : Array Value} {e : TypeId} {sz n room : Nat} (hb : w.heap[b]? = some (.cells cur e (0, 0))) (hn : n * sz ≤ cur.size) :
    (Builtin.firstCells sz n (.slice (some ⟨b, 0, none⟩) n room)).run P w.drew = .ok (cur.toList.take (n * sz)).toArray w.drew := by
  refine run_firstCells_some w.drew sz n ⟨b, 0, none⟩ n room _ (by simp; omega) (fun j u hu => ?_)
  have hj : j < n * sz := by
    rcases Nat.lt_or_ge j (n * sz) with q | q
    · exact q
    · rw [List.getElem?_eq_none (by simp; omega)] at hu; cases hu
  rw [Addr.add_lit, cell_of_row w.drew b _ cur e (0, 0) hb]
  rw [List.getElem?_take, if_pos hj] at hu
  simpa using hu

theorem appBase_rel {P : Program} {β : Env} {sz m by_ : Nat} {e : TypeId} {hp ro : Hp} {B : Base} {w : World} (hs : Mem β hp ro B w) {x : SV} {v : Value} {cs : List Prop} {ks : List Nat} {n : Nat} {f : Nat → Nat → SV} {gr : Bool}
    (h : appBase sz e hp ro x = some (cs, ks, n, f, gr)) (hc : All cs) (hg : All (appCs gr n m by_)) (hx : Rel β x v) (hsz : 0 < sz) : ∃ olds, Olds P β hp w e sz n m f ks v olds := by
  unfold appBase at h
  split at h <;> first | exact (none_ne h).elim | skip
  · simp only [Option.some.injEq, Prod.mk.injEq] at h
    obtain ⟨rfl, rfl, rfl, rfl, rfl⟩ := h
    simp only [Rel] at hx; subst hx
    exact ⟨[], by simp, fun i k hi => by omega, _, _, rfl, Nat.le_refl _, run_firstCells_none w.drew sz 0 0 0, fun _ => rfl, .inl ⟨rfl, rfl, fun _ => rfl⟩⟩
  · rename_i i sz' n'
    cases hb : Nat.beq sz sz' with
    | false => rw [hb] at h; cases h
    | true =>
    rw [hb] at h; simp only [cond_true] at h
    have := beq_nat hb; subst this
    obtain ⟨base, room, rfl, h1, h2, h3, h4⟩ := hx
    have bare : n' = 0 → ∀ f : Nat → Nat → SV, ∀ o, hget i hp = some o → ∃ olds, Olds P β hp w e sz n' m f [i] (.slice base n' room) olds := by
      rintro rfl f o ho
      have hr := h2 rfl rfl
      subst hr
      refine ⟨[], by simp, fun i k hi => by omega, _, _, rfl, Nat.le_refl _, ?_, fun _ => rfl, .inr ⟨i, o, rfl, ho, fun hh => by omega⟩⟩
      cases base with
      | none => exact run_firstCells_none w.drew sz 0 0 0
      | some a => exact run_firstCells_some w.drew sz 0 a 0 0 [] (by simp) (fun j u hu => by simp at hu)
    have full : 0 < n' → ∀ f : Nat → Nat → SV, ∀ o, hget i hp = some o → o.Live → (∀ ob, ORel β o ob → Fit (β.room i) ob → ∃ cur, ob = .cells cur e (0, 0) ∧ n' * sz ≤ cur.size ∧ ∀ j k, j < n' → k < sz → ∃ u, cur[j * sz + k]? = some u ∧ Rel β (f j k) u) →
        ∃ olds, Olds P β hp w e sz n' m f [i] (.slice base n' room) olds := by
      intro hn f o ho hl hcur
      obtain ⟨h5, b, hβ, rfl, h6⟩ := h4 hn
      obtain ⟨b', ob, g1, g2, g3, g4, g5⟩ := hs.own _ _ ho hl
      rw [hβ] at g1; injection g1 with g1; subst g1
      obtain ⟨cur, rfl, c1, c2⟩ := hcur ob g4 g5
      have hfit : β.room i ≤ cur.size := g5.s
      have h7 := h6 rfl
      clear h6
      simp only [Nat.zero_mul, Nat.add_zero]
      refine ⟨cur.toList.take (n' * sz), by simp; omega, fun j k hj hk => ?_, _, _, rfl, h5, olds_take g3 c1, fun hh => by omega, .inr ⟨i, o, rfl, ho, fun _ => ⟨hl, b, cur, hβ, rfl, g3, h7, by omega, rfl⟩⟩⟩
      obtain ⟨u, u1, u2⟩ := c2 j k hj hk
      refine ⟨u, ?_, u2⟩
      have : (j + 1) * sz ≤ n' * sz := Nat.mul_le_mul_right _ hj
      rw [Nat.add_mul] at this
      rw [List.getElem?_take, if_pos (by omega)]
      simpa using u1
    split at h <;> first | exact (none_ne h).elim | skip
    · rename_i n'' cap'' sz'' f' ty hget_
      obtain ⟨hq, h⟩ := bif_some h
      simp only [Prod.mk.injEq] at h
      obtain ⟨rfl, rfl, rfl, rfl, rfl⟩ := h
      simp only [Bool.and_eq_true, Bool.not_eq_true'] at hq
      have q1 := beq_nat hq.1.1; have q2 := beq_nat hq.1.2
      subst q1 q2
      obtain rfl : n' = n'' := hc.head
      by_cases hn : 0 < n'
      · refine full hn f' _ hget_ hn (fun ob hor hfit => ?_)
        obtain ⟨c, fz, tt, htt, rfl, k1, k2, k3⟩ := hor
        have htt : ty = tt := by
          rcases htt with q | q
          · rw [q] at hq; exact absurd hq.2 (by simp)
          · exact q
        subst htt
        have k5 : fz = (0, 0) := hfit.l
        subst k5
        refine ⟨c, rfl, ?_, fun j k hj hk => ?_⟩
        · have : n' * sz ≤ cap'' * sz := Nat.mul_le_mul_right _ k1
          omega
        · obtain ⟨u, u1, u2⟩ := k3 j k hj hk
          exact ⟨u, by simpa using u1, u2⟩
      · exact bare (by omega) f' _ hget_
    · rename_i us ty hget_
      obtain ⟨hq, h⟩ := bif_some h
      simp only [Prod.mk.injEq] at h
      obtain ⟨rfl, rfl, rfl, rfl, rfl⟩ := h
      simp only [Bool.and_eq_true] at hq
      have q1 := beq_nat hq.1
      subst q1
      have hle : n' * sz ≤ us.length := hc.head
      by_cases hn : 0 < n'
      · refine full hn _ _ hget_ trivial (fun ob hor hfit => ?_)
        obtain ⟨xs, rfl, hl⟩ := hor
        have hxl := hl.length
        refine ⟨xs.toArray, rfl, by simp; omega, fun j k hj hk => ?_⟩
        have : (j + 1) * sz ≤ n' * sz := Nat.mul_le_mul_right _ hj
        rw [Nat.add_mul] at this
        have hgg : us[j * sz + k]? = some (us.getD (j * sz + k) .und) := by
          rw [List.getD_eq_getElem?_getD, List.getElem?_eq_getElem (by omega)]; rfl
        obtain ⟨u, u1, u2⟩ := hl.get hgg
        exact ⟨u, by simpa using u1, u2⟩
      · exact bare (by omega) _ _ hget_
  · rename_i i off s sz' n'
    cases hb : Nat.beq sz sz' with
    | false => rw [hb] at h; cases h
    | true =>
    rw [hb] at h; simp only [cond_true] at h
    have := beq_nat hb; subst this
    split at h <;> first | exact (none_ne h).elim | skip
    rename_i so hso
    split at h <;> first | exact (none_ne h).elim | skip
    rename_i cs' g' he
    simp only [Option.some.injEq, Prod.mk.injEq] at h
    obtain ⟨rfl, rfl, rfl, rfl, rfl⟩ := h
    obtain ⟨base, room, rfl, h1, h2, h3, h4⟩ := hx
    have hr := h3 rfl
    subst hr
    have hm : 0 < m := hg.head
    by_cases hn : 0 < room
    · obtain ⟨h5, b, hβ, rfl, _⟩ := h4 hn
      obtain ⟨news, n1, n2, n3, n4⟩ := elems_cells hs hso hβ he hc hsz hn
      exact ⟨news, n1, n4, _, _, rfl, Nat.le_refl _, run_firstCells_some w.drew sz room _ room room news n1 (by simpa using n2), fun h => h, .inl ⟨rfl, rfl, fun h => by omega⟩⟩
    · have : room = 0 := by omega
      subst this
      refine ⟨[], by simp, fun i k hi => by omega, _, _, rfl, Nat.le_refl _, ?_, fun _ => rfl, .inl ⟨rfl, rfl, fun _ => rfl⟩⟩
      cases base with
      | none => exact run_firstCells_none w.drew sz 0 0 0
      | some a => exact run_firstCells_some w.drew sz 0 a 0 0 [] (by simp) (fun j u hu => by simp at hu)

theorem app_run {P : Program} {β : Env} {hp ro : Hp} {B : Base} {nx : Nat} {w : World} (hs : Sat β hp ro B nx w) (hB : ∀ b o, B.D b = some o → b < B.w.heap.size) {sl : Slots} {ρ : Operand → Value} (hr : Rho β sl ρ) {o : Oper} {cs : List Prop} {q : App}
    (h : appOp P sl hp ro o.op = some (cs, q)) (hc : All cs) :
    ∃ (β' : Env) (w' : World) (v : Value), β.le β' ∧ Sat β' ((nx, .row 0 (q.n + q.m) (q.n + q.m) q.sz q.f q.e) :: hdrop' q.ks hp) ro B (nx + 1) w' ∧ Rel β' (.sq nx 0 0 q.sz (q.n + q.m) .own) v ∧
      (execOp ρ o).run P w = .ok (.value v) w' := by
  generalize hop : o.op = op at h
  unfold appOp at h
  split at h <;> first | exact (none_ne h).elim | skip
  rename_i as ts
  split at h <;> first | exact (none_ne h).elim | skip
  rename_i s x t t' eas ets
  have eas : as = #[s, x] := Array.toList_inj.1 (by simpa using eas)
  have ets : ts = #[t, t'] := Array.toList_inj.1 (by simpa using ets)
  subst eas ets
  cases hb : Nat.beq t t' with
  | false => rw [hb] at h; cases h
  | true =>
  rw [hb] at h; simp only [cond_true] at h
  have := beq_nat hb; subst this
  split at h <;> first | exact (none_ne h).elim | skip
  rename_i e sz by_ hel
  split at h <;> first | exact (none_ne h).elim | skip
  rename_i c1 sv c2 xv h1 h2
  split at h <;> first | exact (none_ne h).elim | skip
  rename_i c3 ks n f gr c4 m g h3 h4
  simp only [Option.some.injEq, Prod.mk.injEq] at h
  obtain ⟨rfl, rfl⟩ := h
  unfold elemIn at hel
  split at hel <;> first | exact (none_ne hel).elim | skip
  rename_i e' ht
  split at hel <;> first | exact (none_ne hel).elim | skip
  rename_i inf hi
  split at hel <;> first | exact (none_ne hel).elim | skip
  rename_i z hz
  simp only [natF_eq] at hel
  obtain ⟨hzs, hel⟩ := bif_some hel
  simp only [Prod.mk.injEq] at hel
  obtain ⟨rfl, rfl, rfl⟩ := hel
  simp only [Bool.and_eq_true] at hzs
  have hsz : 0 < inf.size := ble_nat hzs.2
  have hzs := beq_nat hzs.1
  have hg : All (appCs gr n m inf.bytes) := hc.right
  have hby : (n + m) * inf.bytes ≤ 140737488355328 ∧ n + m ≤ 9223372036854775807 := by
    cases gr with
    | true => exact ⟨hg.tail.head, hg.tail.tail.head⟩
    | false => exact ⟨hg.head, hg.tail.head⟩
  obtain ⟨hby, h63⟩ := hby
  have hsv := evs_rel hr h1 hc.left.left.left.left
  have hxv := evs_rel hr h2 hc.left.left.left.right
  obtain ⟨news, hN⟩ := appNew_rel hs.toMem h4 hc.left.right hxv hsz
  obtain ⟨olds, hO⟩ := appBase_rel (P := P) hs.toMem h3 hc.left.left.right hg hsv hsz
  have hsrc := hN.src (P := P) ht
  obtain ⟨ba, room, hve, hnr, hfc, hbare, hown⟩ := hO.v
  have hrun : ∀ {v w'}, (Builtin.append_ #[t, t] o.type #[ρ s, ρ x]).run P w = .ok v w' → (execOp ρ o).run P w = .ok (.value v) w' := by
    intro v w' hh
    simp only [execOp, hop, resolve, invoke, builtin, Sem.run_bind, Sem.run_pure, Result.andThen_ok, List.map_toArray, List.map_cons, List.map_nil, hh]
  have hnl := hN.len
  have hol := hO.len
  show ∃ (β' : Env) (w' : World) (v : Value), β.le β' ∧ Sat β' ((nx, .row 0 (n + m) (n + m) inf.size (appF f n g) e') :: hdrop' ks hp) ro B (nx + 1) w' ∧ Rel β' (.sq nx 0 0 inf.size (n + m) .own) v ∧ (execOp ρ o).run P w = .ok (.value v) w'
  by_cases hm : m = 0
  · -- nothing
    subst hm
    have hnews : news = [] := by simpa using hnl
    subst hnews
    have hr1 := run_append_nothing (P := P) w t t o.type e' inf ht hi ba n room hnr (ρ x) hsrc
    rw [← hve] at hr1
    rcases hown with ⟨rfl, e1, e2⟩ | ⟨i, so, rfl, hi', hlive⟩
    · have hn0 := e2 rfl
      subst hn0
      refine ⟨β, w, _, Env.le_refl _, ((hs.drop []).ghost _ (by show ¬ 0 < 0 + 0; omega)), ?_, hrun hr1⟩
      exact ⟨ba, room, by simpa using hve, fun _ => e1, fun _ _ => e1, fun hh => (by cases hh), fun hh => by omega⟩
    · by_cases hn : 0 < n
      · obtain ⟨hl, b, cur, hβ, rfl, hheap, hrm, hrc, hot⟩ := hlive hn
        have hfit : n * inf.size ≤ cur.size := Nat.le_trans (Nat.mul_le_mul_right _ hnr) hrc
        obtain ⟨b', ob, k1, k2, k3, k4, k5⟩ := hs.own _ _ hi' hl
        rw [hβ] at k1; injection k1 with k1; subst k1
        rw [hheap] at k3; injection k3 with k3; subst k3
        obtain ⟨β', g1, g2, gr', g3⟩ := hs.moved (w' := w) (so := .row 0 (n + 0) (n + 0) inf.size (appF f n g) e') hi' hl hβ (fun β' hle =>
          app_row (β := β') (olds := olds) (news := []) (rest := cur.toList.drop (n * inf.size)) (e := e') (fz := (0, 0)) (by rw [hot]; simp) hol (by simp) (Nat.le_refl _) (by simpa using hfit)
            (fun i k hi hk => let ⟨u, u1, u2⟩ := hO.rel i k hi hk; ⟨u, u1, Rel.mono hle _ _ u2⟩) (fun i k hi => by omega)) k5 hheap (fun _ _ => rfl) rfl rfl rfl rfl
        refine ⟨β', w, _, g1, g3, ?_, hrun hr1⟩
        exact ⟨some ⟨b, 0, none⟩, room, by simpa using hve, fun hh => (by simp at hh), fun _ hh => by omega, fun hh => (by cases hh), fun _ => ⟨hnr, b, g2, by simp, fun _ => by rw [gr']; exact hrm⟩⟩
      · have hn0 : n = 0 := by omega
        subst hn0
        have hr0 := hbare rfl
        refine ⟨β, w, _, Env.le_refl _, ((hs.drop [i]).ghost _ (by show ¬ 0 < 0 + 0; omega)), ?_, hrun hr1⟩
        exact ⟨ba, room, by simpa using hve, fun _ => hr0, fun _ _ => hr0, fun hh => (by cases hh), fun hh => by omega⟩
  · have hm0 : 0 < m := by omega
    by_cases hroom : n + m ≤ room
    · -- there is room
      rcases hown with ⟨rfl, e1, e2⟩ | ⟨i, so, rfl, hi', hlive⟩
      · omega
      · have hn : 0 < n := by
          rcases Nat.eq_zero_or_pos n with q | q
          · have := hbare q; omega
          · exact q
        obtain ⟨hl, b, cur, hβ, rfl, hheap, hrm, hrc, hot⟩ := hlive hn
        obtain ⟨ba2, c2, hxe, hx2⟩ := hN.v
        obtain ⟨a, rfl, hcell⟩ := hx2 hm0
        have hfit : (n + m) * inf.size ≤ cur.size := Nat.le_trans (Nat.mul_le_mul_right _ hroom) hrc
        have hfit2 : n * inf.size + news.length ≤ cur.size := by rw [hnl, ← Nat.add_mul]; exact hfit
        have hr1 := run_append_room (P := P) w t o.type e' inf ht hi b n room cur hheap a m c2 news hnl hcell hN.one hroom hfit2
        obtain ⟨b', ob, k1, k2, k3, k4, k5⟩ := hs.own _ _ hi' hl
        rw [hβ] at k1; injection k1 with k1; subst k1
        rw [hheap] at k3; injection k3 with k3; subst k3
        have k6 : β.room i ≤ cur.size := k5.s
        obtain ⟨β', g1, g2, gr', g3⟩ := hs.moved (w' := w.setRow b (cur.toList.take (n * inf.size) ++ news ++ cur.toList.drop (n * inf.size + news.length)).toArray) (so := .row 0 (n + m) (n + m) inf.size (appF f n g) e') hi' hl hβ (fun β' hle =>
          app_row (β := β') (olds := olds) (news := news) (rest := cur.toList.drop (n * inf.size + news.length)) (e := e') (fz := (0, 0)) (by rw [hot]) hol hnl (Nat.le_refl _) (by
            simp only [List.size_toArray, List.length_append, List.length_take, List.length_drop, Array.length_toList]; omega)
            (fun i k hi hk => let ⟨u, u1, u2⟩ := hO.rel i k hi hk; ⟨u, u1, Rel.mono hle _ _ u2⟩) (fun i k hi hk => let ⟨u, u1, u2⟩ := hN.rel i k hi hk; ⟨u, u1, Rel.mono hle _ _ u2⟩)) ⟨rfl, by
            show β.room i ≤ Array.size _
            simp only [List.size_toArray, List.length_append, List.length_take, List.length_drop, Array.length_toList]; omega⟩
          (setRow_heap w b cur _ e' (0, 0) hheap) (fun k hk => setRow_other w b k _ hk) (by simp [World.setRow]) rfl rfl rfl
        refine ⟨β', _, _, g1, g3, ?_, hrun (by rw [hxe, hve]; exact hr1)⟩
        exact ⟨some ⟨b, 0, none⟩, room, rfl, fun hh => (by simp at hh), fun _ hh => by omega, fun hh => (by cases hh), fun _ => ⟨hroom, b, g2, by simp, fun _ => by rw [gr']; exact hrm⟩⟩
    · -- a new block
      rw [hve] at hfc
      have hr1 := run_append_grow_src (P := P) w t t o.type e' inf z ht hi hz ba n room olds hfc (ρ x) m news hsrc (by omega) (by omega) (growslice_fits (by omega) hby)
      have hge := grownCap_ge w (n + m) room e'
      have hsize : ((olds ++ news).toArray ++ Builtin.zeroCells z.cells (grownCap w (n + m) room e' - (n + m))).size = grownCap w (n + m) room e' * inf.size := by
        simp only [Array.size_append, List.size_toArray, List.length_append, size_zeroCells, hzs, hol, hnl, ← Nat.add_mul]
        congr 1; omega
      obtain ⟨β', g1, g2, gr', g3⟩ := ((hs.drew).drop ks).new (.row 0 (n + m) (n + m) inf.size (appF f n g) e') (.cells ((olds ++ news).toArray ++ Builtin.zeroCells z.cells (grownCap w (n + m) room e' - (n + m))) e') hB (fun β' hle _ => by
        refine app_row (olds := olds) (news := news) (rest := (Builtin.zeroCells z.cells (grownCap w (n + m) room e' - (n + m))).toList) (by simp) hol hnl (Nat.le_refl _) ?_ (fun i k hi hk => ?_) (fun i k hi hk => ?_)
        · rw [hsize]; exact Nat.mul_le_mul_right _ hge
        · obtain ⟨u, u1, u2⟩ := hO.rel i k hi hk; exact ⟨u, u1, Rel.mono hle _ _ u2⟩
        · obtain ⟨u, u1, u2⟩ := hN.rel i k hi hk; exact ⟨u, u1, Rel.mono hle _ _ u2⟩) rfl
      refine ⟨β', _, _, g1, g3, ?_, hrun (by rw [hve]; exact hr1)⟩
      refine ⟨some ⟨w.heap.size, 0, none⟩, _, rfl, fun hh => (by simp at hh), fun _ hh => by omega, fun hh => (by cases hh), fun _ => ⟨hge, w.heap.size, g2, by simp, fun _ => ?_⟩⟩
      rw [gr']
      show _ ≤ Array.size _
      rw [hsize]; exact Nat.le_refl _
/-- What an append leaves as it was. -/
structure AppDid (ks : List Nat) (hp : Hp) (β : Env) (idn : Nat) (w : World) (β' : Env) (w' : World) : Prop where
  new : ∀ i bl, β' i = some bl → β i = some bl ∨ i = idn
  kept : ∀ bl o, w.heap[bl]? = some o → (∀ t s, t ∈ ks → hget t hp = some s → s.Live → β t = some bl → False) → w'.heap[bl]? = some o
  os : w'.os = w.os
  tape : w'.tape = w.tape
  output : w'.output = w.output
  size : w.heap.size ≤ w'.heap.size
theorem app_did {P : Program} {β : Env} {hp ro : Hp} {B : Base} {w : World} (idn : Nat) (hs : Mem β hp ro B w) (hf : β idn = none) {sl : Slots} {ρ : Operand → Value} (hr : Rho β sl ρ) {o : Oper} {cs : List Prop} {q : App}
    (h : appOp P sl hp ro o.op = some (cs, q)) (hc : All cs) :
    ∃ (β' : Env) (w' : World) (v : Value), β.le β' ∧ (execOp ρ o).run P w = .ok (.value v) w' ∧ Rel β' (.sq idn 0 0 q.sz (q.n + q.m) .own) v ∧
      ((SO.row 0 (q.n + q.m) (q.n + q.m) q.sz q.f q.e).Live → ∃ bl ob, β' idn = some bl ∧ w'.heap[bl]? = some ob ∧ ORel β' (.row 0 (q.n + q.m) (q.n + q.m) q.sz q.f q.e) ob ∧ Fit (β'.room idn) ob ∧
        (bl = w.heap.size ∨ ∃ t s, t ∈ q.ks ∧ hget t hp = some s ∧ s.Live ∧ β t = some bl)) ∧ AppDid q.ks hp β idn w β' w' := by
  generalize hop : o.op = op at h
  unfold appOp at h
  split at h <;> first | exact (none_ne h).elim | skip
  rename_i as ts
  split at h <;> first | exact (none_ne h).elim | skip
  rename_i s x t t' eas ets
  have eas : as = #[s, x] := Array.toList_inj.1 (by simpa using eas)
  have ets : ts = #[t, t'] := Array.toList_inj.1 (by simpa using ets)
  subst eas ets
  cases hb : Nat.beq t t' with
  | false => rw [hb] at h; cases h
  | true =>
  rw [hb] at h; simp only [cond_true] at h
  have := beq_nat hb; subst this
  split at h <;> first | exact (none_ne h).elim | skip
  rename_i e sz by_ hel
  split at h <;> first | exact (none_ne h).elim | skip
  rename_i c1 sv c2 xv h1 h2
  split at h <;> first | exact (none_ne h).elim | skip
  rename_i c3 ks n f gr c4 m g h3 h4
  simp only [Option.some.injEq, Prod.mk.injEq] at h
  obtain ⟨rfl, rfl⟩ := h
  unfold elemIn at hel
  split at hel <;> first | exact (none_ne hel).elim | skip
  rename_i e' ht
  split at hel <;> first | exact (none_ne hel).elim | skip
  rename_i inf hi
  split at hel <;> first | exact (none_ne hel).elim | skip
  rename_i z hz
  simp only [natF_eq] at hel
  obtain ⟨hzs, hel⟩ := bif_some hel
  simp only [Prod.mk.injEq] at hel
  obtain ⟨rfl, rfl, rfl⟩ := hel
  simp only [Bool.and_eq_true] at hzs
  have hsz : 0 < inf.size := ble_nat hzs.2
  have hzs := beq_nat hzs.1
  have hg : All (appCs gr n m inf.bytes) := hc.right
  have hby : (n + m) * inf.bytes ≤ 140737488355328 ∧ n + m ≤ 9223372036854775807 := by
    cases gr with
    | true => exact ⟨hg.tail.head, hg.tail.tail.head⟩
    | false => exact ⟨hg.head, hg.tail.head⟩
  obtain ⟨hby, h63⟩ := hby
  have hsv := evs_rel hr h1 hc.left.left.left.left
  have hxv := evs_rel hr h2 hc.left.left.left.right
  obtain ⟨news, hN⟩ := appNew_rel hs h4 hc.left.right hxv hsz
  obtain ⟨olds, hO⟩ := appBase_rel (P := P) hs h3 hc.left.left.right hg hsv hsz
  have hsrc := hN.src (P := P) ht
  obtain ⟨ba, room, hve, hnr, hfc, hbare, hown⟩ := hO.v
  have hrun : ∀ {v w'}, (Builtin.append_ #[t, t] o.type #[ρ s, ρ x]).run P w = .ok v w' → (execOp ρ o).run P w = .ok (.value v) w' := by
    intro v w' hh
    simp only [execOp, hop, resolve, invoke, builtin, Sem.run_bind, Sem.run_pure, Result.andThen_ok, List.map_toArray, List.map_cons, List.map_nil, hh]
  have hnl := hN.len
  have hol := hO.len
  show ∃ (β' : Env) (w' : World) (v : Value), β.le β' ∧ (execOp ρ o).run P w = .ok (.value v) w' ∧ Rel β' (.sq idn 0 0 inf.size (n + m) .own) v ∧
      ((SO.row 0 (n + m) (n + m) inf.size (appF f n g) e').Live → ∃ bl ob, β' idn = some bl ∧ w'.heap[bl]? = some ob ∧ ORel β' (.row 0 (n + m) (n + m) inf.size (appF f n g) e') ob ∧ Fit (β'.room idn) ob ∧
        (bl = w.heap.size ∨ ∃ t s, t ∈ ks ∧ hget t hp = some s ∧ s.Live ∧ β t = some bl)) ∧ AppDid ks hp β idn w β' w'
  have newadd : ∀ (b r : Nat) i bl, β.add idn b r i = some bl → β i = some bl ∨ i = idn := by
    intro b r i bl hb
    by_cases e : i = idn
    · exact .inr e
    · rw [Env.add_other _ _ _ e] at hb; exact .inl hb
  have same : ∀ ks, AppDid ks hp β idn w β w := fun ks => ⟨fun _ _ h => .inl h, fun _ _ h _ => h, rfl, rfl, rfl, Nat.le_refl _⟩
  by_cases hm : m = 0
  · -- nothing
    subst hm
    have hnews : news = [] := by simpa using hnl
    subst hnews
    have hr1 := run_append_nothing (P := P) w t t o.type e' inf ht hi ba n room hnr (ρ x) hsrc
    rw [← hve] at hr1
    rcases hown with ⟨rfl, e1, e2⟩ | ⟨i, so, rfl, hi', hlive⟩
    · have hn0 := e2 rfl
      subst hn0
      refine ⟨β, w, _, Env.le_refl _, hrun hr1, ?_, fun hh => absurd hh (by show ¬ 0 < 0 + 0; omega), same _⟩
      exact ⟨ba, room, by simpa using hve, fun _ => e1, fun _ _ => e1, fun hh => (by cases hh), fun hh => by omega⟩
    · by_cases hn : 0 < n
      · obtain ⟨hl, b, cur, hβ, rfl, hheap, hrm, hrc, hot⟩ := hlive hn
        have hfit : n * inf.size ≤ cur.size := Nat.le_trans (Nat.mul_le_mul_right _ hnr) hrc
        obtain ⟨b', ob, k1, k2, k3, k4, k5⟩ := hs.own _ _ hi' hl
        rw [hβ] at k1; injection k1 with k1; subst k1
        rw [hheap] at k3; injection k3 with k3; subst k3
        have hle : β.le (β.add idn b (β.room i)) := Env.le_add hf
        refine ⟨_, w, _, hle, hrun hr1, ?_, fun _ => ⟨b, _, Env.add_same .., hheap, ?_, by rw [Env.add_room]; exact k5, .inr ⟨i, so, by simp, hi', hl, hβ⟩⟩, newadd _ _, fun _ _ h _ => h, rfl, rfl, rfl, Nat.le_refl _⟩
        · exact ⟨some ⟨b, 0, none⟩, room, by simpa using hve, fun hh => (by simp at hh), fun _ hh => by omega, fun hh => (by cases hh), fun _ => ⟨hnr, b, Env.add_same .., by simp, fun _ => by rw [Env.add_room]; exact hrm⟩⟩
        · exact app_row (olds := olds) (news := []) (rest := cur.toList.drop (n * inf.size)) (e := e') (fz := (0, 0)) (by rw [hot]; simp) hol (by simp) (Nat.le_refl _) (by simpa using hfit)
            (fun i k hi hk => let ⟨u, u1, u2⟩ := hO.rel i k hi hk; ⟨u, u1, Rel.mono hle _ _ u2⟩) (fun i k hi => by omega)
      · have hn0 : n = 0 := by omega
        subst hn0
        have hr0 := hbare rfl
        refine ⟨β, w, _, Env.le_refl _, hrun hr1, ?_, fun hh => absurd hh (by show ¬ 0 < 0 + 0; omega), same _⟩
        exact ⟨ba, room, by simpa using hve, fun _ => hr0, fun _ _ => hr0, fun hh => (by cases hh), fun hh => by omega⟩
  · have hm0 : 0 < m := by omega
    by_cases hroom : n + m ≤ room
    · -- there is room
      rcases hown with ⟨rfl, e1, e2⟩ | ⟨i, so, rfl, hi', hlive⟩
      · omega
      · have hn : 0 < n := by
          rcases Nat.eq_zero_or_pos n with q | q
          · have := hbare q; omega
          · exact q
        obtain ⟨hl, b, cur, hβ, rfl, hheap, hrm, hrc, hot⟩ := hlive hn
        obtain ⟨ba2, c2, hxe, hx2⟩ := hN.v
        obtain ⟨a, rfl, hcell⟩ := hx2 hm0
        have hfit : (n + m) * inf.size ≤ cur.size := Nat.le_trans (Nat.mul_le_mul_right _ hroom) hrc
        have hfit2 : n * inf.size + news.length ≤ cur.size := by rw [hnl, ← Nat.add_mul]; exact hfit
        have hr1 := run_append_room (P := P) w t o.type e' inf ht hi b n room cur hheap a m c2 news hnl hcell hN.one hroom hfit2
        obtain ⟨b', ob, k1, k2, k3, k4, k5⟩ := hs.own _ _ hi' hl
        rw [hβ] at k1; injection k1 with k1; subst k1
        rw [hheap] at k3; injection k3 with k3; subst k3
        have k6 : β.room i ≤ cur.size := k5.s
        have hle : β.le (β.add idn b (β.room i)) := Env.le_add hf
        refine ⟨_, w.setRow b (cur.toList.take (n * inf.size) ++ news ++ cur.toList.drop (n * inf.size + news.length)).toArray, _, hle, hrun (by rw [hxe, hve]; exact hr1), ?_,
          fun _ => ⟨b, _, Env.add_same .., setRow_heap w b cur _ e' (0, 0) hheap, ?_, ⟨rfl, ?_⟩, .inr ⟨i, so, by simp, hi', hl, hβ⟩⟩, newadd _ _, fun bl o2 hh hno => ?_, rfl, rfl, rfl, by simp [World.setRow]⟩
        · exact ⟨some ⟨b, 0, none⟩, room, rfl, fun hh => (by simp at hh), fun _ hh => by omega, fun hh => (by cases hh), fun _ => ⟨hroom, b, Env.add_same .., by simp, fun _ => by rw [Env.add_room]; exact hrm⟩⟩
        · exact app_row (olds := olds) (news := news) (rest := cur.toList.drop (n * inf.size + news.length)) (e := e') (fz := (0, 0)) (by rw [hot]) hol hnl (Nat.le_refl _) (by
            simp only [List.size_toArray, List.length_append, List.length_take, List.length_drop, Array.length_toList]; omega)
            (fun i k hi hk => let ⟨u, u1, u2⟩ := hO.rel i k hi hk; ⟨u, u1, Rel.mono hle _ _ u2⟩) (fun i k hi hk => let ⟨u, u1, u2⟩ := hN.rel i k hi hk; ⟨u, u1, Rel.mono hle _ _ u2⟩)
        · rw [Env.add_room]
          show β.room i ≤ Array.size _
          simp only [List.size_toArray, List.length_append, List.length_take, List.length_drop, Array.length_toList]; omega
        · by_cases e : bl = b
          · subst e; exact (hno i so (by simp) hi' hl hβ).elim
          · rw [setRow_other w b bl _ e]; exact hh
    · -- a new block
      rw [hve] at hfc
      have hr1 := run_append_grow_src (P := P) w t t o.type e' inf z ht hi hz ba n room olds hfc (ρ x) m news hsrc (by omega) (by omega) (growslice_fits (by omega) hby)
      have hge := grownCap_ge w (n + m) room e'
      have hsize : ((olds ++ news).toArray ++ Builtin.zeroCells z.cells (grownCap w (n + m) room e' - (n + m))).size = grownCap w (n + m) room e' * inf.size := by
        simp only [Array.size_append, List.size_toArray, List.length_append, size_zeroCells, hzs, hol, hnl, ← Nat.add_mul]
        congr 1; omega
      have hle : β.le (β.add idn w.heap.size (grownCap w (n + m) room e' * inf.size)) := Env.le_add hf
      refine ⟨_, w.drew.alloc (.cells ((olds ++ news).toArray ++ Builtin.zeroCells z.cells (grownCap w (n + m) room e' - (n + m))) e' (0, 0)), _, hle, hrun (by rw [hve]; exact hr1), ?_, fun _ => ⟨w.heap.size, (.cells ((olds ++ news).toArray ++ Builtin.zeroCells z.cells (grownCap w (n + m) room e' - (n + m))) e' (0, 0)), Env.add_same .., ?_, ?_, ⟨rfl, ?_⟩, .inl rfl⟩, newadd _ _, fun bl o2 hh _ => ?_, rfl, rfl, rfl, by simp [World.size_alloc]⟩
      · refine ⟨some ⟨w.heap.size, 0, none⟩, _, rfl, fun hh => (by simp at hh), fun _ hh => by omega, fun hh => (by cases hh), fun _ => ⟨hge, w.heap.size, Env.add_same .., by simp, fun _ => ?_⟩⟩
        rw [Env.add_room]; exact Nat.le_refl _
      · show ((w.drew.heap).push _)[w.heap.size]? = _
        have : w.drew.heap = w.heap := rfl
        rw [this]; simp
      · refine app_row (olds := olds) (news := news) (rest := (Builtin.zeroCells z.cells (grownCap w (n + m) room e' - (n + m))).toList) (by simp) hol hnl (Nat.le_refl _) ?_ (fun i k hi hk => ?_) (fun i k hi hk => ?_)
        · rw [hsize]; exact Nat.mul_le_mul_right _ hge
        · obtain ⟨u, u1, u2⟩ := hO.rel i k hi hk; exact ⟨u, u1, Rel.mono hle _ _ u2⟩
        · obtain ⟨u, u1, u2⟩ := hN.rel i k hi hk; exact ⟨u, u1, Rel.mono hle _ _ u2⟩
      · rw [Env.add_room]
        show _ ≤ Array.size _
        rw [hsize]; exact Nat.le_refl _
      · have := RowKit.Below.heap_alloc w.drew (.cells ((olds ++ news).toArray ++ Builtin.zeroCells z.cells (grownCap w (n + m) room e' - (n + m))) e') bl (Array.getElem?_eq_some_iff.1 hh).1
        rw [this]; exact hh
end Sx
