/- The symbolic machine, part 5: what its steps give, proved against the model. Conditions: as each theorem says. -/
import Derived.Test.YtlpbmlfejiaamaaEngX4
import Derived.Lib.SliceRun
import GoSem.Builtin.Delete
import Derived.Sort.Grow
import Derived.Laws.IdiomCopy
set_option linter.unusedSimpArgs false
set_option linter.unusedVariables false
section
namespace Sx
open Go
section
variable {P : Program} {ro : Hp} {B : Base} {f : FuncId} {R : Ending → World → Prop}
theorem mem_erase {es : Array MapEntry} {c : Nat} (h : MapKept.Stamped es c) {j : Nat} {e : MapEntry} (hj : es[j]? = some e) (x : MapEntry) : x ∈ (es.eraseIdxIfInBounds j).toList ↔ x ∈ es.toList ∧ x.key ≠ e.key := by
  have hlt : j < es.size := (Array.getElem?_eq_some_iff.1 hj).1
  have hl : (es.eraseIdxIfInBounds j).toList = es.toList.eraseIdx j := by
    unfold Array.eraseIdxIfInBounds
    rw [dif_pos hlt, Array.toList_eraseIdx]
  rw [hl, List.mem_eraseIdx_iff_getElem?]
  have hej : e ∈ es.toList := Array.mem_toList_iff.2 (Array.mem_of_getElem? hj)
  constructor
  · rintro ⟨i, hne, hi⟩
    have hx : x ∈ es.toList := List.mem_of_getElem? hi
    refine ⟨hx, fun q => ?_⟩
    have := key_inj h hx hej q
    subst this
    have hj' : es.toList[j]? = some x := by simpa using hj
    have l1 : i < es.toList.length := (List.getElem?_eq_some_iff.1 hi).1
    have q1 : (es.toList.map (·.born))[i]? = some x.born := by rw [List.getElem?_map, hi]; rfl
    have q2 : (es.toList.map (·.born))[j]? = some x.born := by rw [List.getElem?_map, hj']; rfl
    exact hne ((List.getElem?_inj (by simpa using l1) h.2.1).1 (q1.trans q2.symm))
  · rintro ⟨hx, hne⟩
    obtain ⟨i, hi⟩ := List.getElem?_of_mem hx
    refine ⟨i, fun q => ?_, hi⟩
    subst q
    have : es.toList[i]? = some e := by simpa using hj
    rw [hi] at this; injection this with this; subst this
    exact hne rfl
/-- The map without a key. -/
structure Less1 (es es' : Array MapEntry) : Prop where
  sub : ∀ x, x ∈ es'.toList → x ∈ es.toList
  left : ∀ seen : Array Nat, (leftOf es' seen).size ≤ (leftOf es seen).size
theorem Less1.seen {es es' : Array MapEntry} (h : Less1 es es') {q : IntKind} {seen : Array Nat} {S : Int → Bool} (hS : SeenIs q es seen S) : SeenIs q es' seen S := fun x hx a ha => hS x (h.sub x hx) a ha
theorem Less1.refl (es : Array MapEntry) : Less1 es es := ⟨fun _ h => h, fun _ => Nat.le_refl _⟩
theorem Less1.trans {a b c : Array MapEntry} (h : Less1 a b) (g : Less1 b c) : Less1 a c := ⟨fun x hx => h.sub x (g.sub x hx), fun s => Nat.le_trans (g.left s) (h.left s)⟩
theorem del_run {β : Env} {w : World} {t kt et ty : TypeId} {q : IntKind} (hu : P.underlying t = some (.map kt et)) (hk : P.underlying kt = some (.int q)) {b : Nat} {es : Array MapEntry} {c : Nat} {h : Int → Bool} {E : MEl}
    (hb : w.heap[b]? = some (.map es c)) (r : MRel β q h E es c) (n : Int) (ats : Array TypeId) (hat : ats[0]? = some t) :
    ∃ es', (Builtin.delete_ ats ty #[.map (some b), .int q n]).run P w = .ok (.tuple #[]) { w with heap := w.heap.setIfInBounds b (.map es' c) } ∧ MRel β q (fun a => h a && !ieq a n) E es' c ∧ Less1 es es' := by
  obtain ⟨a, g1, g2, g3⟩ := find_run (P := P) (w := w) hk r n
  cases hn : h n with
  | true =>
    obtain ⟨j, e, rfl, hj, hkey, _⟩ := g2 hn
    have hm := mem_erase r.st hj
    refine ⟨es.eraseIdxIfInBounds j, ?_, ⟨MapKept.stamped_erase r.st j, fun x hx => ?_, fun a ha => ?_⟩, ⟨fun x hx => ((hm x).1 hx).1, fun seen => ?_⟩⟩
    · simp [Builtin.delete_, hat, run_underlying hu, MapKept.run_getObj_map hb, MapKept.run_checkKey (k := .int q n) hk rfl, g1, MapKept.run_setObj_map _ hb, Result.andThen]
    · obtain ⟨h1, h2⟩ := (hm x).1 hx
      obtain ⟨a, k1, k2, k3⟩ := r.ent x h1
      refine ⟨a, k1, ?_, k3⟩
      have : a ≠ n := fun q' => by subst q'; exact h2 (k1.trans hkey.symm)
      simp [k2, ieq, this]
    · rw [Bool.and_eq_true] at ha
      obtain ⟨x, hx, k1⟩ := r.has a ha.1
      refine ⟨x, (hm x).2 ⟨hx, fun q' => ?_⟩, k1⟩
      rw [k1, hkey] at q'
      injection q' with _ q'
      subst q'
      simp [ieq] at ha
    · have hlt : j < es.size := (Array.getElem?_eq_some_iff.1 hj).1
      have hl : (es.eraseIdxIfInBounds j).toList = es.toList.eraseIdx j := by
        unfold Array.eraseIdxIfInBounds
        rw [dif_pos hlt, Array.toList_eraseIdx]
      unfold leftOf
      rw [← Array.length_toList, Array.toList_filter, ← Array.length_toList, Array.toList_filter, hl]
      exact List.Sublist.length_le ((List.eraseIdx_sublist _ _).filter _)
  | false =>
    obtain ⟨rfl, hno⟩ := g3 hn
    refine ⟨es, ?_, ⟨r.st, fun x hx => ?_, fun a ha => ?_⟩, Less1.refl es⟩
    · simp [Builtin.delete_, hat, run_underlying hu, MapKept.run_getObj_map hb, MapKept.run_checkKey (k := .int q n) hk rfl, g1, MapKept.run_setObj_map _ hb, Result.andThen]
    · obtain ⟨a, k1, k2, k3⟩ := r.ent x hx
      refine ⟨a, k1, ?_, k3⟩
      have : a ≠ n := fun q' => by subst q'; rw [hn] at k2; cases k2
      simp [k2, ieq, this]
    · rw [Bool.and_eq_true] at ha
      exact r.has a ha.1
def delArg (P : Program) (sl : Slots) : Op → Option (List Prop × Nat × IntKind × Int)
  | .call { callee := .builtin .delete, args := as, argTypes := ts } => match ts.toList, evList sl as.toList with
    | t :: _, some (cs, [.mp i, .int q n]) => match mapIn P t with
      | some (q', _, _) => bif keq q q' then some (cs, i, q, n) else none
      | none => none
    | _, _ => none
  | _ => none
theorem delArg_rel {P : Program} {β : Env} {sl : Slots} {ρ : Operand → Value} (hr : Rho β sl ρ) {o : Oper} {cs : List Prop} {i : Nat} {q : IntKind} {n : Int} (h : delArg P sl o.op = some (cs, i, q, n)) (hc : All cs) :
    ∃ (t kt et : TypeId) (b : Nat) (ats : Array TypeId), P.underlying t = some (.map kt et) ∧ P.underlying kt = some (.int q) ∧ β i = some b ∧ ats[0]? = some t ∧ ∀ w w', (Builtin.delete_ ats o.type #[.map (some b), .int q n]).run P w = .ok (.tuple #[]) w' → (execOp ρ o).run P w = .ok (.value (.tuple #[])) w' := by
  generalize hop : o.op = op at h
  unfold delArg at h
  split at h <;> first | exact (none_ne h).elim | skip
  rename_i as ts
  split at h <;> first | exact (none_ne h).elim | skip
  rename_i t ts' cs' i' q' n' e1 e2
  split at h <;> first | exact (none_ne h).elim | skip
  rename_i q2 et rr e3
  obtain ⟨h1, h2⟩ := bif_some h
  have := keq_eq h1; subst this
  simp only [Prod.mk.injEq] at h2
  obtain ⟨rfl, rfl, rfl, rfl⟩ := h2
  obtain ⟨kt, g1, g2⟩ := mapIn_spec e3
  have hl := evList_rel hr e2 hc
  obtain ⟨v1, vs1, k1, ⟨b, k2, rfl⟩, v2, vs2, rfl, k4, rfl⟩ := hl
  have k4 : v2 = .int q' n' := k4
  subst k4
  have ha : as.map ρ = #[.map (some b), .int q' n'] := by
    apply Array.toList_inj.1
    rw [Array.toList_map, k1]
  have ht : ts[0]? = some t := by
    rw [← Array.getElem?_toList, e1]; rfl
  refine ⟨t, kt, _, b, ts, g1, g2, k2, ht, fun w w' hd => ?_⟩
  simp only [execOp, hop, Sem.run_bind, resolve, Sem.run_pure, Result.andThen, invoke, builtin, ha, hd]
/-- A key is deleted. -/
theorem run_mdel {q : IntKind} {h : Int → Bool} {E : MEl} {fn : FId} {n : Nat} {sl sl' : Slots} {ops : Array Oper} {i0 : Nat} {o : Oper} {cur : List Oper} {tl : Option (List Nat)} {k : List SI} {rest : List SFr} {hp hp' : Hp} {nx i : Nat} {m : Int} {cs0 : List Prop}
    (ho : delArg P sl o.op = some (cs0, i, q, m)) (hgd : guardIn ops sl o = some .run) (hc0 : conj cs0) (hi : hget i hp = some (.map q h E)) (hset' : hset i (.map q (fun a => h a && !ieq a m) E) hp = some hp') (hput : put o.dst (.tup []) n sl = some sl')
    (hr : Run P ro B f R ⟨⟨fn, n, sl', .reg ops (i0 + 1) cur tl :: k⟩, rest, hp', nx⟩) :
    Run P ro B f R ⟨⟨fn, n, sl, .reg ops i0 (o :: cur) tl :: k⟩, rest, hp, nx⟩ := by
  refine run_opz (Z := Unit) (G := fun _ => True) (sz := fun _ => .tup []) (hpz := fun _ => hp') (nxz := fun _ => nx) (fun _ _ => ⟨sl', hput, hr⟩) ?_
  intro β w tmps b k' fs r dd hn hsl hlt hs hk hop
  have hw := guard_rel hgd hn hsl hlt
  have hrho : Rho β sl (Act.eval ⟨tmps, dd⟩) := ⟨hsl, fun _ => rfl, fun _ => rfl⟩
  obtain ⟨t, kt, et, bm, ats, hu, hk', hβ, hat, hex⟩ := delArg_rel hrho ho (all_conj hc0)
  obtain ⟨b', ob, k1, k2, k3, k4, k5⟩ := hs.own _ _ hi trivial
  rw [hβ] at k1; injection k1 with k1; subst k1
  obtain ⟨es, c, rfl, g⟩ := k4
  obtain ⟨es', d1, d2, d3⟩ := del_run (P := P) (ty := o.type) hu hk' k3 g m ats hat
  have hlt' : bm < w.heap.size := (Array.getElem?_eq_some_iff.1 k3).1
  refine ⟨(), β, { w with heap := w.heap.setIfInBounds bm (.map es' c) }, .tuple #[], trivial, Env.le_refl _, ?_, ⟨[], rfl, rfl⟩, .one (op_value hop hw ?_)⟩
  · exact ⟨hs.toMem.set hset' ⟨hi, trivial⟩ hβ ⟨es', c, rfl, d2⟩ ⟨trivial, k5.s⟩ (by simp [hlt']) (fun j hj => by simp [Ne.symm hj]) (by simp) rfl rfl rfl, hs.fresh⟩
  · exact hex _ _ d1
/-- A key of a map that is ranged over is deleted. -/
theorem run_mdelR {q : IntKind} {h : Int → Bool} {E : MEl} {es : Array MapEntry} {clock : Nat} {fn : FId} {n : Nat} {sl : Slots} {ops : Array Oper} {i0 : Nat} {o : Oper} {cur : List Oper} {tl : Option (List Nat)} {k : List SI} {rest : List SFr} {hp : Hp} {nx i : Nat} {m : Int} {cs0 : List Prop}
    (ho : delArg P sl o.op = some (cs0, i, q, m)) (hgd : guardIn ops sl o = some .run) (hc0 : conj cs0) (hi : hget i hp = some (.mape q h E es clock))
    (hr : ∀ es', Keys q (fun a => h a && !ieq a m) es' clock → Less1 es es' → ∃ sl' hp', put o.dst (.tup []) n sl = some sl' ∧ hset i (.mape q (fun a => h a && !ieq a m) E es' clock) hp = some hp' ∧ Run P ro B f R ⟨⟨fn, n, sl', .reg ops (i0 + 1) cur tl :: k⟩, rest, hp', nx⟩) :
    Run P ro B f R ⟨⟨fn, n, sl, .reg ops i0 (o :: cur) tl :: k⟩, rest, hp, nx⟩ := by
  have hsx : ∀ so, ∃ hp', hset i so hp = some hp' := by
    intro so
    have : ∀ l : Hp, ∃ l', hset i so l = some l' := by
      intro l
      induction l with
      | nil => exact ⟨[], rfl⟩
      | cons p l ih =>
        obtain ⟨j', v⟩ := p
        obtain ⟨l', e⟩ := ih
        simp only [hset, e]
        cases Nat.beq i j' <;> exact ⟨_, rfl⟩
    exact this hp
  refine run_opz (Z := Array MapEntry) (G := fun es' => Keys q (fun a => h a && !ieq a m) es' clock ∧ Less1 es es') (sz := fun _ => .tup []) (hpz := fun es' => (hset i (.mape q (fun a => h a && !ieq a m) E es' clock) hp).getD []) (nxz := fun _ => nx) ?_ ?_
  · rintro es' ⟨h1, h2⟩
    obtain ⟨sl', hp', e1, e2, hr⟩ := hr es' h1 h2
    exact ⟨sl', e1, by simp only [e2, Option.getD_some]; exact hr⟩
  · intro β w tmps b k' fs r dd hn hsl hlt hs hk hop
    have hw := guard_rel hgd hn hsl hlt
    have hrho : Rho β sl (Act.eval ⟨tmps, dd⟩) := ⟨hsl, fun _ => rfl, fun _ => rfl⟩
    obtain ⟨t, kt, et, bm, ats, hu, hk', hβ, hat, hex⟩ := delArg_rel hrho ho (all_conj hc0)
    obtain ⟨b', ob, k1, k2, k3, k4, k5⟩ := hs.own _ _ hi trivial
    rw [hβ] at k1; injection k1 with k1; subst k1
    obtain ⟨rfl, g⟩ := k4
    obtain ⟨es', d1, d2, d3⟩ := del_run (P := P) (ty := o.type) hu hk' k3 g m ats hat
    have hlt' : bm < w.heap.size := (Array.getElem?_eq_some_iff.1 k3).1
    obtain ⟨hp', e2⟩ := hsx (.mape q (fun a => h a && !ieq a m) E es' clock)
    refine ⟨es', β, { w with heap := w.heap.setIfInBounds bm (.map es' clock) }, .tuple #[], ⟨d2.keys, d3⟩, Env.le_refl _, ?_, ⟨[], rfl, rfl⟩, .one (op_value hop hw ?_)⟩
    · simp only [e2, Option.getD_some]
      exact ⟨hs.toMem.set e2 ⟨hi, trivial⟩ hβ ⟨rfl, d2⟩ ⟨trivial, k5.s⟩ (by simp [hlt']) (fun j hj => by simp [Ne.symm hj]) (by simp) rfl rfl rfl, hs.fresh⟩
    · exact hex _ _ d1

theorem setCells_cells (b : Nat) (tt : TypeId) (fz : Nat × Nat) : ∀ (vs : List Value) (o : Nat) (w : World) (c : Array Value), w.heap[b]? = some (.cells c tt fz) → o + vs.length ≤ c.size →
    ∃ c' : Array Value, (w.setCells b o vs).heap[b]? = some (.cells c' tt fz) ∧ c'.size = c.size ∧ (∀ j, j < vs.length → c'[o + j]? = vs[j]?) ∧ (∀ j, j < o ∨ o + vs.length ≤ j → c'[j]? = c[j]?) ∧
      (∀ k, k ≠ b → (w.setCells b o vs).heap[k]? = w.heap[k]?) ∧ (w.setCells b o vs).heap.size = w.heap.size ∧ (w.setCells b o vs).os = w.os ∧ (w.setCells b o vs).tape = w.tape ∧ (w.setCells b o vs).output = w.output
  | [], o, w, c, hb, hle => ⟨c, hb, rfl, fun j hj => absurd hj (Nat.not_lt_zero _), fun _ _ => rfl, fun _ _ => rfl, rfl, rfl, rfl, rfl⟩
  | v :: vs, o, w, c, hb, hle => by
    have hlt : b < w.heap.size := (Array.getElem?_eq_some_iff.1 hb).1
    have h1 : (w.setCell ⟨b, o, none⟩ v).heap[b]? = some (.cells (c.setIfInBounds o v) tt fz) := by
      simp [World.setCell, Array.getElem?_modify, hb]
    simp only [List.length_cons] at hle
    obtain ⟨c', g1, g2, g3, g4, g5, g6, g7, g8, g9⟩ := setCells_cells b tt fz vs (o + 1) (w.setCell ⟨b, o, none⟩ v) _ h1 (by simp; omega)
    refine ⟨c', g1, by simpa using g2, fun j hj => ?_, fun j hj => ?_, fun k hk => ?_, ?_, g7, g8, g9⟩
    · match j with
      | 0 =>
        rw [g4 (o + 0) (by omega)]
        simp [show o < c.size by omega]
      | j + 1 =>
        have := g3 j (by simpa using hj)
        rw [show o + (j + 1) = o + 1 + j by omega, this]; rfl
    · simp only [List.length_cons] at hj
      rw [g4 j (by omega)]
      rw [Array.getElem?_setIfInBounds_ne (by omega)]
    · rw [World.setCells, g5 k hk]
      simp [World.setCell, Array.getElem?_modify, Ne.symm hk]
    · rw [World.setCells, g6]
      simp [World.setCell]
/-- A row whose elements from s to s + m are z. -/
def clrF (f : Nat → Nat → SV) (s m : Nat) (z : SV) : Nat → Nat → SV := fun i k => if s ≤ i ∧ i < s + m then z else f i k
def clrArg (P : Program) (sl : Slots) : Op → Option (List Prop × Nat × Nat × Nat × Nat × SV)
  | .call { callee := .builtin .clear, args := as, argTypes := ts } => match ts.toList, evList sl as.toList with
    | t :: _, some (cs, [.sq i off s 1 m _]) => match P.underlying t with
      | some (.slice e) => match zeroIn P e with
        | some (.int k z) => some (cs, i, off, s, m, .int k z)
        | _ => none
      | _ => none
    | _, _ => none
  | _ => none
theorem zeroIn_int {e : TypeId} {k : IntKind} {z : Int} (h : zeroIn P e = some (.int k z)) : ∀ w, (zeroValue e).run P w = .ok (.int k z) w := by
  intro w
  unfold zeroIn at h
  split at h <;> first | exact (none_ne h).elim | skip
  rename_i i hi
  split at h <;> first | exact (none_ne h).elim | skip
  rename_i v hv
  have hve : v = .int k z := by
    unfold ofVal at h
    split at h
    · split at h <;> simp at h
    · split at h <;> simp at h
    · rename_i v' _ _
      unfold scal at h
      split at h <;> simp at h
      obtain ⟨rfl, rfl⟩ := h
      rfl
  subst hve
  simp [zeroValue, typeInfo, hi, hv, Result.andThen]
/-- A stretch of a row of numbers is cleared. -/
theorem run_clr {fn : FId} {n : Nat} {sl sl' : Slots} {ops : Array Oper} {i0 : Nat} {o : Oper} {cur : List Oper} {tl : Option (List Nat)} {k : List SI} {rest : List SFr} {hp hp' : Hp} {nx i off s m N cap : Nat} {f0 : Nat → Nat → SV} {ty : TypeId} {z : SV} {cs0 : List Prop}
    (ho : clrArg P sl o.op = some (cs0, i, off, s, m, z)) (hgd : guardIn ops sl o = some .run) (hc0 : conj cs0) (hi : hget i hp = some (.row off N cap 1 f0 ty)) (hsm : s + m ≤ N) (hN : 0 < N) (hset' : hset i (.row off N cap 1 (clrF f0 s m z) ty) hp = some hp') (hput : put o.dst (.tup []) n sl = some sl')
    (hr : Run P ro B f R ⟨⟨fn, n, sl', .reg ops (i0 + 1) cur tl :: k⟩, rest, hp', nx⟩) :
    Run P ro B f R ⟨⟨fn, n, sl, .reg ops i0 (o :: cur) tl :: k⟩, rest, hp, nx⟩ := by
  refine run_opz (Z := Unit) (G := fun _ => True) (sz := fun _ => .tup []) (hpz := fun _ => hp') (nxz := fun _ => nx) (fun _ _ => ⟨sl', hput, hr⟩) ?_
  intro β w tmps b k' fs r dd hn hsl hlt hs hk hop
  have hw := guard_rel hgd hn hsl hlt
  have hrho : Rho β sl (Act.eval ⟨tmps, dd⟩) := ⟨hsl, fun _ => rfl, fun _ => rfl⟩
  generalize hop' : o.op = op at ho
  unfold clrArg at ho
  split at ho <;> first | exact (none_ne ho).elim | skip
  rename_i as ts
  split at ho <;> first | exact (none_ne ho).elim | skip
  rename_i t ts' cs' i' off' s' m' ap e1 e2
  split at ho <;> first | exact (none_ne ho).elim | skip
  rename_i e hu
  split at ho <;> first | exact (none_ne ho).elim | skip
  rename_i kz z0 hz
  simp only [Option.some.injEq, Prod.mk.injEq] at ho
  obtain ⟨rfl, rfl, rfl, rfl, rfl, rfl⟩ := ho
  obtain ⟨v1, vs1, k1, ⟨base, room, rfl, q1, q2, q3, q4⟩, rfl⟩ := evList_rel hrho e2 (all_conj hc0)
  have ha : as.map (Act.eval ⟨tmps, dd⟩) = #[.slice base m' room] := by
    apply Array.toList_inj.1
    rw [Array.toList_map, k1]
  have ht : ts[0]? = some t := by
    rw [← Array.getElem?_toList, e1]; rfl
  have hats : ∀ w w', (Builtin.clear_ #[t] o.type #[.slice base m' room]).run P w = .ok (.tuple #[]) w' → (execOp (Act.eval ⟨tmps, dd⟩) o).run P w = .ok (.value (.tuple #[])) w' := by
    intro w w' hd
    have hd' : (Builtin.clear_ ts o.type #[.slice base m' room]).run P w = .ok (.tuple #[]) w' := by
      have : Builtin.clear_ ts o.type #[.slice base m' room] = Builtin.clear_ #[t] o.type #[.slice base m' room] := by
        unfold Builtin.clear_
        simp [ht]
      rw [this]; exact hd
    simp only [execOp, hop', Sem.run_bind, resolve, Sem.run_pure, Result.andThen, invoke, builtin, ha, hd']
  obtain ⟨b', ob, g1, g2, g3, g4, g5⟩ := hs.own _ _ hi hN
  obtain ⟨c, fz, tt, c0, rfl, c1, c2, c3⟩ := g4
  have hfz : fz = (0, 0) := g5.l
  subst hfz
  by_cases hm0 : m' = 0
  · subst hm0
    refine ⟨(), β, w, .tuple #[], trivial, Env.le_refl _, ?_, ⟨[], rfl, rfl⟩, .one (op_value hop hw (hats w w ?_))⟩
    · refine ⟨hs.toMem.set hset' ⟨hi, hN⟩ g1 ⟨c, (0, 0), tt, c0, rfl, c1, c2, fun a b ha hb => ?_⟩ ⟨rfl, g5.s⟩ g3 (fun _ _ => rfl) rfl rfl rfl rfl, hs.fresh⟩
      obtain ⟨u, hu1, hu2⟩ := c3 a b ha hb
      exact ⟨u, hu1, by unfold clrF; rw [if_neg (by omega)]; exact hu2⟩
    · cases base with
      | none => simp [Builtin.clear_, run_underlying hu, Result.andThen]
      | some a => simp [Builtin.clear_, run_underlying hu, Result.andThen]
  · obtain ⟨r1, bb, r2, rfl, r3⟩ := q4 (by omega)
    rw [g1] at r2; injection r2 with r2; subst r2
    have hsz : off' + (s' + m') ≤ c.size := by omega
    obtain ⟨c', d1, d2, d3, d4, d5, d6, d7, d8, d9⟩ := setCells_cells b' tt (0, 0) (List.replicate m' (Value.int kz z0)) (off' + s' * 1) w c g3 (by simp; omega)
    refine ⟨(), β, w.setCells b' (off' + s' * 1) (List.replicate m' (Value.int kz z0)), .tuple #[], trivial, Env.le_refl _, ?_, ⟨[], rfl, rfl⟩, .one (op_value hop hw (hats w _ ?_))⟩
    · refine ⟨hs.toMem.set hset' ⟨hi, hN⟩ g1 ⟨c', (0, 0), tt, c0, rfl, c1, by omega, fun a j ha hj => ?_⟩ ⟨rfl, by show _ ≤ c'.size; rw [d2]; exact g5.s⟩ d1 (fun k hk => d5 k hk) d6 d7 d8 d9, hs.fresh⟩
      obtain ⟨u, hu1, hu2⟩ := c3 a j ha hj
      have hj0 : j = 0 := by omega
      subst hj0
      by_cases hq : s' ≤ a ∧ a < s' + m'
      · refine ⟨.int kz z0, ?_, by unfold clrF; rw [if_pos hq]; rfl⟩
        have := d3 (a - s') (by simp; omega)
        rw [show off' + s' * 1 + (a - s') = off' + a * 1 + 0 by omega] at this
        rw [this, List.getElem?_replicate, if_pos (by omega)]
      · refine ⟨u, ?_, by unfold clrF; rw [if_neg hq]; exact hu2⟩
        rw [d4 _ (by simp; omega)]; exact hu1
    · refine Lib.run_clear_slice w t e o.type (.int kz z0) hu (zeroIn_int hz) rfl rfl b' (off' + s' * 1) m' room (by omega) (fun j hj => ?_) (fun j hj => ?_)
      · have : off' + s' * 1 + j < c.size := by omega
        simp [World.cell?, g3]
        omega
      · simp [World.frozen?, g3]
end
end Sx
end
section
namespace Sx
open Go
theorem Mem.grow {β : Env} {hp ro : Hp} {B : Base} {w : World} (hs : Mem β hp ro B w) (os : Array Obj) : Mem β hp ro B (Go.Sort.grow w os) := by
  have hk : ∀ (b : Nat) (o : Obj), w.heap[b]? = some o → (Go.Sort.grow w os).heap[b]? = some o := fun b o h => by
    rw [Go.Sort.heap_grow_old w os (Array.getElem?_eq_some_iff.1 h).1]; exact h
  refine ⟨fun i s h1 h2 => ?_, hs.apart, hs.read, fun b o h => hk b o (hs.old b o h), hs.os, hs.tape, hs.output, Nat.le_trans hs.size (by simp), hs.pin⟩
  obtain ⟨b, o, k1, k2, k3, k4, k5⟩ := hs.own i s h1 h2
  exact ⟨b, o, k1, k2, hk b o k3, k4, k5⟩
theorem Mem.ahead {β : Env} {hp ro : Hp} {B : Base} {w : World} (hs : Mem β hp ro B w) (n : Nat) : Mem β hp ro B (Go.Sort.ahead w n) :=
  ⟨hs.own, hs.apart, hs.read, hs.old, hs.os, hs.tape, hs.output, hs.size, hs.pin⟩
abbrev rowL (k : IntKind) (l : List Int) : Nat → Nat → SV := fun i j =>
  match j with
  | 0 => .int k (l.getD i 0)
  | _ => .und
theorem sort_hcG {P : Program} {g : Nat}
    (hS : ∀ (blk off cap : Nat) (zs : List Int) (w : World), Go.Sort.Holds (Value.int .i64) w blk off zs.toArray → blk < w.heap.size → zs.length < 4611686018427387904 →
      Calls P g #[.slice (some ⟨blk, off, none⟩) zs.length cap] w fun e w' => e = .returned (.tuple #[]) ∧ ∃ n os, w' = Go.Sort.grow (Go.Sort.putRow (Value.int .i64) (Go.Sort.ahead w n) blk off (zs.mergeSort fun x y => decide (x ≤ y)).toArray) os)
    (hN : ∀ (p : Option Addr) (cap : Nat) (w : World), Calls P g #[.slice p 0 cap] w fun e w' => e = .returned (.tuple #[]) ∧ w' = w)
    (l : List Int) (cap : Nat) (ty : TypeId) (hl : l.length < 4611686018427387904) :
    HC P g [.sq 0 0 0 1 l.length .no] [(0, .row 0 l.length cap 1 (rowL .i64 l) ty)] [] 1 (fun _ : Unit => True) (fun _ => ⟨.tup [], [(0, .row 0 l.length cap 1 (rowL .i64 (l.mergeSort fun x y => decide (x ≤ y))) ty)], 1⟩) := by
  intro B β w vs hB hvs hs
  obtain ⟨v, vs', rfl, ⟨base, room, rfl, q1, q2, q3, q4⟩, rfl⟩ := hvs
  rcases Nat.eq_zero_or_pos l.length with h0 | h0
  · have hnil : l = [] := List.length_eq_zero_iff.1 h0
    subst hnil
    refine (hN base room w).mono ?_
    rintro e w' ⟨rfl, rfl⟩
    refine ⟨(), β, .tuple #[], trivial, Env.le_refl _, rfl, ⟨[], rfl, rfl⟩, ?_⟩
    simpa using hs
  · obtain ⟨r1, b, r2, rfl, r3⟩ := q4 h0
    obtain ⟨b', ob, g1, g2, g3, g4, g5⟩ := hs.own 0 _ rfl h0
    rw [r2] at g1; injection g1 with g1; subst g1
    obtain ⟨c, fz, tt, c0, rfl, c1, c2, c3⟩ := g4
    have hfz : fz = (0, 0) := g5.l
    subst hfz
    have hlt : b < w.heap.size := (Array.getElem?_eq_some_iff.1 g3).1
    have hcell : ∀ j, j < l.length → c[j]? = some (.int .i64 (l.getD j 0)) := by
      intro j hj
      obtain ⟨u, hu1, hu2⟩ := c3 j 0 hj (by omega)
      have hu2 : u = .int .i64 (l.getD j 0) := hu2
      rw [hu2] at hu1
      simpa using hu1
    have hH : Go.Sort.Holds (Value.int .i64) w b (0 + 0 * 1) l.toArray := by
      intro j hj
      have hj : j < l.length := by simpa using hj
      refine ⟨?_, by simp [World.frozen?, g3]⟩
      simp only [World.cell?, g3, Option.isSome_none, Bool.false_eq_true, if_false]
      rw [show 0 + 0 * 1 + j = j by omega, hcell j hj]
      simp [hj]
    refine (hS b (0 + 0 * 1) room l w hH hlt hl).mono ?_
    rintro e w' ⟨rfl, n, os, rfl⟩
    refine ⟨(), β, .tuple #[], trivial, Env.le_refl _, rfl, ⟨[], rfl, rfl⟩, ⟨Mem.grow ?_ os, hs.fresh⟩⟩
    have hset' : hset 0 (.row 0 l.length cap 1 (rowL .i64 (l.mergeSort fun x y => decide (x ≤ y))) ty) [(0, .row 0 l.length cap 1 (rowL .i64 l) ty)] = some [(0, .row 0 l.length cap 1 (rowL .i64 (l.mergeSort fun x y => decide (x ≤ y))) ty)] := rfl
    have hm := List.length_mergeSort (le := fun x y : Int => decide (x ≤ y)) l
    refine (hs.toMem.ahead n).set hset' ⟨rfl, h0⟩ r2 (ob := .cells (Go.Sort.putCells (Value.int .i64) (0 + 0 * 1) (l.mergeSort fun x y => decide (x ≤ y)).toArray c) tt (0, 0)) ?_ ⟨rfl, ?_⟩ ?_ ?_ ?_ rfl rfl rfl
    · refine ⟨_, (0, 0), tt, c0, rfl, c1, by simpa [Go.Sort.putCells] using c2, fun i k hi hk => ?_⟩
      have hk0 : k = 0 := by omega
      subst hk0
      refine ⟨.int .i64 ((l.mergeSort fun x y => decide (x ≤ y)).getD i 0), ?_, rfl⟩
      rw [show 0 + i * 1 + 0 = i by omega]
      simp only [Go.Sort.putCells, Array.getElem?_mapIdx, hcell i hi, Option.map_some]
      rw [if_pos ⟨by omega, by simp [hm]; omega⟩]
      have : i < (l.mergeSort fun x y => decide (x ≤ y)).length := by omega
      simp [this]
    · have := g5.s
      simpa [Go.Sort.putCells, osize] using this
    · simp [Go.Sort.putRow, Go.Sort.mapBlock, Array.getElem?_modify, g3, Go.Sort.onCells]
    · intro k hk
      simp [Go.Sort.putRow, Go.Sort.mapBlock, Array.getElem?_modify, Ne.symm hk]
    · simp [Go.Sort.putRow, Go.Sort.mapBlock]
end Sx
end
section
namespace Sx
open Go
/-- One name more is bound for good. -/
def Base.pinA (B : Base) (k b r : Nat) : Base := ⟨B.D, B.w, B.pin.add k b r, B.kd⟩
theorem PinTo.pinA {B : Base} {np : Nat} (h : PinTo B np) {k b r : Nat} (hk : k < np) : PinTo (B.pinA k b r) np := by
  refine ⟨fun i hi => ?_, h.k⟩
  show (B.pin.add k b r) i = none
  rw [Env.add_other _ _ _ (by omega)]
  exact h.p i hi
theorem PinTo.more {B : Base} {np np' : Nat} (h : PinTo B np) (hn : np ≤ np') : PinTo B np' := ⟨fun i hi => h.p i (by omega), h.k⟩
theorem Base.pinA_ok {B : Base} (h : B.ok) {k b r : Nat} : (B.pinA k b r).ok := h
theorem pinned_A {B : Base} {k b r : Nat} : Pinned (B.pinA k b r) k := ⟨b, Env.add_same _ _ _ _⟩
theorem Pinned.more {B B' : Base} (h : More B B') {i : Nat} (hp : Pinned B i) : Pinned B' i := by
  obtain ⟨b, hb⟩ := hp
  exact ⟨b, h.pin _ _ hb⟩
theorem Pinned.A {B : Base} {i k b r : Nat} (hp : Pinned B i) : Pinned (B.pinA k b r) i := by
  by_cases h : i = k
  · subst h; exact pinned_A
  · obtain ⟨c, hc⟩ := hp
    exact ⟨c, (Env.add_other _ _ _ h).trans hc⟩
theorem Pinned.pin2 {B : Base} {i nx D l : Nat} (hp : Pinned B i) : Pinned (B.pin2 nx D l) i := by
  obtain ⟨c, hc⟩ := hp
  unfold Pinned Base.pin2
  show ∃ b, (bif Nat.beq i nx then some D else bif Nat.beq i (nx + 1) then some l else B.pin i) = some b
  cases Nat.beq i nx with
  | true => exact ⟨_, rfl⟩
  | false => cases Nat.beq i (nx + 1) with
    | true => exact ⟨_, rfl⟩
    | false => exact ⟨c, hc⟩
theorem More.trans {A B C : Base} (h : More A B) (g : More B C) : More A C := ⟨g.D.trans h.D, g.w.trans h.w, Env.le_trans h.pin g.pin, g.kd.trans h.kd⟩
section
variable {P : Program} {ro : Hp} {B : Base} {f : FuncId} {R : Ending → World → Prop}
/-- A name is bound for good: to its block, or to any if it holds nothing. -/
theorem run_pinK (k : Nat) {c : Cfg} (hk : k < c.nx) (hr : ∀ b r, More B (B.pinA k b r) → Run P ro (B.pinA k b r) f R c) : Run P ro B f R c := by
  intro β w fr frs cs hf hfs hs
  have key : ∃ β' : Env, ∃ b, β.le β' ∧ β' k = some b ∧ Sat β' c.hp ro B c.nx w := by
    cases hb : β k with
    | some b => exact ⟨β, b, Env.le_refl _, hb, hs⟩
    | none =>
      have hne : ∀ i b, β i = some b → i ≠ k := by
        intro i b h e; subst e; rw [hb] at h; cases h
      refine ⟨β.add k 0 0, 0, Env.le_add hb, Env.add_same _ _ _ _, ⟨⟨fun i s hi hl => ?_, fun i j s t hi hj hl ht hij => ?_, fun i s hi hl => ?_, hs.old, hs.os, hs.tape, hs.output, hs.size, Env.le_trans hs.pin (Env.le_add hb)⟩, fun i hi => ?_⟩⟩
      · obtain ⟨b, o, h1, h2, h3, h4, h5⟩ := hs.own i s hi hl
        have hn := hne i b h1
        exact ⟨b, o, (Env.add_other _ _ _ hn).trans h1, h2, h3, ORel.mono (Env.le_add hb) _ _ h4, by rw [Env.add_room_other _ _ _ hn]; exact h5⟩
      · obtain ⟨b, o, h1, _⟩ := hs.own i s hi hl
        obtain ⟨b', o', h1', _⟩ := hs.own j t hj ht
        rw [Env.add_other _ _ _ (hne i b h1), Env.add_other _ _ _ (hne j b' h1')]
        exact hs.apart i j s t hi hj hl ht hij
      · obtain ⟨b, o, h1, h2, h3⟩ := hs.read i s hi hl
        exact ⟨b, o, (Env.add_other _ _ _ (hne i b h1)).trans h1, h2, ORel.mono (Env.le_add hb) _ _ h3⟩
      · rw [Env.add_other _ _ _ (by omega)]; exact hs.fresh i hi
  obtain ⟨β', b, hle, hb, hs'⟩ := key
  have hpl : (B.pin.add k b (β'.room k)).le β' := by
    refine ⟨fun i x hx => ?_, fun i x hx => ?_⟩
    · by_cases h : i = k
      · subst h; rw [Env.add_same] at hx; injection hx with hx; subst hx; exact hb
      · rw [Env.add_other _ _ _ h] at hx; exact hs'.pin _ _ hx
    · by_cases h : i = k
      · subst h; rw [Env.add_room]
      · rw [Env.add_room_other _ _ _ h]; rw [Env.add_other _ _ _ h] at hx; exact hs'.pin.r _ _ hx
  have hM : More B (B.pinA k b (β'.room k)) := by
    refine ⟨rfl, rfl, ⟨fun i x hx => ?_, fun i x hx => ?_⟩, rfl⟩
    · by_cases h : i = k
      · subst h
        have := hs'.pin _ _ hx
        rw [hb] at this; injection this with this; subst this
        exact Env.add_same _ _ _ _
      · exact (Env.add_other _ _ _ h).trans hx
    · by_cases h : i = k
      · subst h
        show (B.pin.add i b (β'.room i)).room i = _
        rw [Env.add_room]; exact hs'.pin.r _ _ hx
      · exact Env.add_room_other _ _ _ h
  exact hr b (β'.room k) hM β' w fr frs cs (hf.mono hle) (hfs.mono hle) ⟨⟨hs'.own, hs'.apart, hs'.read, hs'.old, hs'.os, hs'.tape, hs'.output, hs'.size, hpl⟩, hs'.fresh⟩
/-- Other rows to read. -/
theorem run_ro {ro' : Hp} {fn : SFr} {rest : List SFr} {hp : Hp} {nx nx' : Nat} (h : ∀ β w, Sat β hp ro B nx w → ∃ β' : Env, β.le β' ∧ Sat β' hp ro' B nx' w) (hr : Run P ro' B f R ⟨fn, rest, hp, nx'⟩) : Run P ro B f R ⟨fn, rest, hp, nx⟩ := by
  intro β w fr frs cs hf hfs hs
  obtain ⟨β', hle, hs'⟩ := h β w hs
  exact hr β' w fr frs cs (hf.mono hle) (hfs.mono hle) hs'
end
end Sx
end
section
namespace Sx
open Go Go.ChangeShapes Go.WideShapes
section
variable {H : Type} {enc : TypeId × Value → H} {P : Program} {w : World}
theorem slice_argC {t e : TypeId} {sz fuel : Nat} {v : Value} {x : DataW H × List MemPlace} (ht : P.underlying t = some (.slice e)) (hsz : P.cellsOf e = sz) (hp : 0 < sz)
    (h : DataW.trod enc P w 0 (fun _ => true) true fuel t [v] = some x) :
    ∃ (off n : Nat) (C : Nat → List Value) (β : Env), (∀ i, i < n → ∃ m y, DataW.trod enc P w 0 (fun _ => true) true m e (C i) = some y) ∧
      Rel β (.sq 0 off 0 sz n .no) v ∧ Sat β [] [] (Base.all w) 1 w ∧
      ∀ i, i < n → ∃ b c tt fz, β 0 = some b ∧ w.heap[b]? = some (.cells c tt fz) ∧ ∀ k, k < sz → c[off + i * sz + k]? = (C i)[k]? := by
  rcases Deep.open_slice ht h with ⟨hv, _⟩ | ⟨a, len, cap, m, n, D, Pl, hv, _, hl, _, hm, _, hx⟩
  · obtain rfl : v = .slice none 0 0 := by simpa using hv
    exact ⟨0, 0, fun _ => [], Env.nil, fun i hi => absurd hi (Nat.not_lt_zero _), rel_nilsq, ⟨⟨fun _ _ h => (none_ne h).elim, fun _ _ _ _ h => (none_ne h).elim, fun _ _ h => (none_ne h).elim, fun _ _ h => h, rfl, rfl, rfl, Nat.le_refl _, Env.le_refl _⟩, fun _ _ => rfl⟩,
      fun i hi => absurd hi (Nat.not_lt_zero _)⟩
  · obtain rfl : v = .slice (some a) len cap := by simpa using hv
    have hm : m = cap := by simpa using hm
    subst hm
    rw [hsz] at hx
    obtain ⟨C, hC⟩ := Deep.choose_lt (α := List Value) (p := fun i cs' => w.cells? 0 (a.add (i * sz)) sz = some cs' ∧ DataW.trod enc P w 0 (fun _ => true) true n e cs' = some (D i, Pl i)) (n := m) hx
    have cell : ∀ i k, i < m → k < sz → w.cell? ((a.add (i * sz)).add k) = (C i)[k]? := fun i k hi hk => (World.cells?_some (hC i hi).1).2.2 k hk
    have len' : ∀ i, i < m → (C i).length = sz := fun i hi => (World.cells?_some (hC i hi).1).2.1
    refine ⟨a.off, len, C, Env.one a.block, fun i hi => ⟨n, _, (hC i (by omega)).2⟩, ?_, ⟨⟨fun _ _ h => (none_ne h).elim, fun _ _ _ _ h => (none_ne h).elim, fun _ _ h => (none_ne h).elim, fun _ _ h => h, rfl, rfl, rfl, Nat.le_refl _, Env.nil_le _⟩, ?_⟩, ?_⟩
    · unfold Rel
      refine ⟨some a, m, rfl, fun h => (by cases h), fun h => (by cases h), fun h => (by cases h), fun h0 => ⟨hl, a.block, rfl, ?_, fun h => (by cases h)⟩⟩
      have c0 := cell 0 0 (by omega) hp
      have l0 := len' 0 (by omega)
      rw [List.getElem?_eq_getElem (by omega)] at c0
      have : a.spot = none := by
        have := World.cell?_spot c0
        simpa [Addr.add] using this
      obtain ⟨ab, ao, asp⟩ := a
      simp only at this
      subst this
      simp
    · intro i hi
      match i, hi with
      | i + 1, _ => rfl
    · intro i hi
      have h0 : 0 < len := by omega
      have c0 := cell 0 0 (by omega) hp
      have l0 := len' 0 (by omega)
      rw [List.getElem?_eq_getElem (by omega)] at c0
      have sp : a.spot = none := by
        have := World.cell?_spot c0
        simpa [Addr.add] using this
      obtain ⟨ab, ao, asp⟩ := a
      simp only at sp
      subst sp
      have hcell : ∀ i k, i < m → k < sz → ∃ c tt fz, w.heap[ab]? = some (.cells c tt fz) ∧ c[ao + i * sz + k]? = (C i)[k]? := by
        intro i k hi hk
        have h1 := cell i k hi hk
        have h2 := len' i hi
        rw [List.getElem?_eq_getElem (by omega)] at h1 ⊢
        have e1 : ((Addr.mk ab ao none).add (i * sz)).add k = ⟨ab, ao + i * sz + k, none⟩ := by
          unfold Addr.add
          by_cases q : i * sz = 0 <;> by_cases r : k = 0 <;> simp [q, r, Nat.add_assoc]
        rw [e1] at h1
        unfold World.cell? at h1
        split at h1
        · rename_i c tt fz hh
          exact ⟨c, tt, fz, hh, by simpa using h1⟩
        · cases h1
      obtain ⟨c, tt, fz, hh, _⟩ := hcell i 0 (by omega) hp
      refine ⟨ab, c, tt, fz, rfl, hh, fun k hk => ?_⟩
      obtain ⟨c', tt', fz', hh', g⟩ := hcell i k (by omega) hk
      rw [hh] at hh'
      simp only [Option.some.injEq, Obj.cells.injEq] at hh'
      obtain ⟨rfl, _, _⟩ := hh'
      exact g
end
/-- A call from one base. -/
theorem hcB_of_run {ι : Type} {P : Program} {f : FuncId} {fn : Func} {c : Code} {xs : List SV} {hp ro : Hp} {nx : Nat} {ψ : ι → Prop} {out : ι → Out} (hfn : P.funcs[f]? = some fn) (hb : fn.body = some c)
    {B : Base} {β : Env} {w : World} {vs : List Value} (hB : B.ok) (hl : RelL β xs vs) (hs : Sat β hp ro B nx w)
    (h : ∀ B1 : Base, B1.D = B.D → B1.pin = β → B1.ok → PinTo B1 nx → Run P ro B1 f (HEnd B1.pin B1 ro ψ out) ⟨⟨fid f, xs.length + (fn.ntmps - xs.length), enumFrom 0 xs, [.code c]⟩, [], hp, nx⟩) : Calls P f vs.toArray w (HEnd β B ro ψ out) := by
  have hs1 : Sat β hp ro ⟨B.D, B.w, β, Kind.norm⟩ nx w := ⟨⟨hs.own, hs.apart, hs.read, hs.old, hs.os, hs.tape, hs.output, hs.size, Env.le_refl _⟩, hs.fresh⟩
  refine (calls_of_run hfn hb hl hs1 (h ⟨B.D, B.w, β, Kind.norm⟩ rfl rfl hB ⟨hs.fresh, rfl⟩) rfl).mono ?_
  rintro e w' ⟨z, β', u, h1, h2, h3, h4, h5⟩
  exact ⟨z, β', u, h1, h2, h3, h4, ⟨h5.own, h5.apart, h5.read, h5.old, h5.os, h5.tape, h5.output, h5.size, Env.le_trans hs.pin h2⟩, h5.fresh⟩
/-- A slice under another name and environment. -/
theorem sq_move {β β' : Env} {i j off sz len : Nat} {v : Value} (h : Rel β (.sq i off 0 sz len .no) v) (e : 0 < len → ∀ b, β i = some b → β' j = some b) : Rel β' (.sq j off 0 sz len .no) v := by
  obtain ⟨base, room, h1, h2, h3, h4, h5⟩ := h
  exact ⟨base, room, h1, h2, h3, h4, fun h0 => ⟨(h5 h0).1, let ⟨b, hb, g, _⟩ := (h5 h0).2; ⟨b, e h0 b hb, g, fun h => by cases h⟩⟩⟩
section
variable {P : Program} {ro : Hp} {B : Base} {f : FuncId} {R : Ending → World → Prop}
/-- The rows to read are given up. -/
theorem run_shut {c : Cfg} (hr : Run P [] B f R c) : Run P ro B f R c := by
  intro β w fr frs cs hf hfs hs
  exact hr β w fr frs cs hf hfs ⟨⟨hs.own, hs.apart, fun _ _ h => (none_ne h).elim, hs.old, hs.os, hs.tape, hs.output, hs.size, hs.pin⟩, hs.fresh⟩
end
end Sx
end
section
namespace Sx
open Go

/-- The truth value that was put last, decided. -/
def decTop : Cfg → Cfg
  | ⟨⟨fn, n, (d, .sb b) :: sl, td⟩, rest, hp, nx⟩ => match b with
    | true => ⟨⟨fn, n, (d, .tt) :: sl, td⟩, rest, hp, nx⟩
    | false => ⟨⟨fn, n, (d, .ff) :: sl, td⟩, rest, hp, nx⟩
  | c => c
/-- All truth values and guards of the top frame, decided. -/
def decL : Slots → Option Slots
  | [] => some []
  | (d, .sb b) :: r => match decL r with
    | some r' => match b with
      | true => some ((d, .tt) :: r')
      | false => some ((d, .ff) :: r')
    | none => none
  | (d, .cnd g v) :: r => match decL r with
    | some r' => match g with
      | true => match v with
        | .sb b => match b with
          | true => some ((d, .tt) :: r')
          | false => some ((d, .ff) :: r')
        | v => some ((d, v) :: r')
      | false => some ((d, .cnd false .und) :: r')
    | none => none
  | x :: r => match decL r with
    | some r' => some (x :: r')
    | none => none
def decAll : Cfg → Cfg
  | ⟨⟨fn, n, sl, td⟩, rest, hp, nx⟩ => match decL sl with
    | some sl' => ⟨⟨fn, n, sl', td⟩, rest, hp, nx⟩
    | none => ⟨⟨fn, n, sl, td⟩, rest, hp, nx⟩
def isDrawn : Cfg → Bool
  | ⟨⟨_, _, _, .code (.region _ _ true) :: _⟩, _, _, _⟩ => true
  | _ => false
def execX (P : Program) (M : Mode) (ro : Hp) : Nat → List Prop → Cfg → List Prop × Cfg
  | 0, acc, c => (acc, c)
  | n + 1, acc, c => match stepD P M ro c with
    | none => (acc, c)
    | some (cs, c') => match pushAll cs acc with
      | [] => match isDrawn c with
        | true => execX P M ro n [] (decAll c')
        | false => execX P M ro n [] (decTop c')
      | p :: ps => match isDrawn c with
        | true => execX P M ro n (p :: ps) (decAll c')
        | false => execX P M ro n (p :: ps) (decTop c')
/-- Whether the slot that was put last is one of these. -/
def atS (S : List (Nat × Nat)) : Cfg → Bool
  | ⟨⟨fn, _, (d, .sb _) :: _, _⟩, _, _, _⟩ => S.any fun p => Nat.beq p.1 fn.f && Nat.beq p.2 d
  | _ => false
/-- The same, up to a truth value in one of the slots S. -/
def execY (P : Program) (M : Mode) (ro : Hp) (S : List (Nat × Nat)) : Nat → List Prop → Cfg → List Prop × Cfg
  | 0, acc, c => (acc, c)
  | n + 1, acc, c => match stepD P M ro c with
    | none => (acc, c)
    | some (cs, c') => match pushAll cs acc with
      | [] => match atS S c' with
        | true => ([], c')
        | false => execY P M ro S n [] (decTop c')
      | p :: ps => match atS S c' with
        | true => (p :: ps, c')
        | false => execY P M ro S n (p :: ps) (decTop c')
section
variable {P : Program} {M : Mode} {ro : Hp} {B : Base} {f : FuncId} {R : Ending → World → Prop}
theorem run_dec {c : Cfg} (h : Run P ro B f R (decTop c)) : Run P ro B f R c := by
  unfold decTop at h
  split at h
  · rename_i fn n d b sl td rest hp nx
    have key : ∀ v : SV, (∀ β u, Rel β (.sb b) u → Rel β v u) → Run P ro B f R ⟨⟨fn, n, (d, v) :: sl, td⟩, rest, hp, nx⟩ → Run P ro B f R ⟨⟨fn, n, (d, .sb b) :: sl, td⟩, rest, hp, nx⟩ := by
      intro v hv hr
      refine run_slots (fun β g hs t u hu => ?_) hr
      simp only [look] at hu ⊢
      cases hb : Nat.beq t d with
      | true =>
        rw [hb] at hu; simp only [cond_true, Option.some.injEq] at hu
        subst hu
        exact ⟨hv β _ (hs t (.sb b) (by simp only [look, hb]; rfl)), _, rfl⟩
      | false =>
        rw [hb] at hu; simp only [cond_false] at hu
        exact ⟨hs t u (by simp only [look, hb]; exact hu), u, hu⟩
    cases b with
    | true => exact key .tt (fun _ _ h => h) h
    | false => exact key .ff (fun _ _ h => h) h
  · exact h
theorem decL_at {β : Env} {x : Value} : ∀ {sl sl' : Slots}, decL sl = some sl' → ∀ t v, look t sl' = some v → (∀ w, look t sl = some w → Rel β w x) → Rel β v x ∧ ∃ u, look t sl = some u := by
  intro sl
  induction sl with
  | nil => intro sl' h t v hv hs; injection h with h; subst h; cases hv
  | cons y r ih =>
    intro sl' h t v hv hs
    obtain ⟨d, s⟩ := y
    have key : ∀ (s' : SV) (r' : Slots), decL r = some r' → (∀ u, Rel β s u → Rel β s' u) → sl' = (d, s') :: r' → Rel β v x ∧ ∃ u, look t ((d, s) :: r) = some u := by
      intro s' r' hr hss e
      subst e
      simp only [look] at hv hs ⊢
      cases hb : Nat.beq t d with
      | true =>
        rw [hb] at hv; simp only [cond_true, Option.some.injEq] at hv
        subst hv
        exact ⟨hss _ (hs s (by rw [hb]; rfl)), s, rfl⟩
      | false =>
        rw [hb] at hv hs; simp only [cond_false] at hv hs ⊢
        exact ih hr t v hv hs
    unfold decL at h
    split at h
    · rename_i e; cases e
    · rename_i d' b r0 e
      injection e with e1 e2
      simp only [Prod.mk.injEq] at e1
      obtain ⟨rfl, rfl⟩ := e1
      subst e2
      split at h <;> first | exact (none_ne h).elim | skip
      rename_i r' hr
      cases b <;> (injection h with h; exact key _ r' hr (by intro u hu; exact hu) h.symm)
    · rename_i d' g' v' r0 e
      injection e with e1 e2
      simp only [Prod.mk.injEq] at e1
      obtain ⟨rfl, rfl⟩ := e1
      subst e2
      split at h <;> first | exact (none_ne h).elim | skip
      rename_i r' hr
      cases g' with
      | true =>
        simp only at h
        split at h
        · rename_i b
          cases b <;> (injection h with h; exact key _ r' hr (by intro u hu; exact hu.1 rfl) h.symm)
        · injection h with h
          exact key _ r' hr (by intro u hu; exact hu.1 rfl) h.symm
      | false =>
        injection h with h
        exact key _ r' hr (by intro u hu; exact ⟨fun e => Bool.noConfusion e, fun _ => hu.2 rfl⟩) h.symm
    · rename_i x' r0 _ _ e
      injection e with e1 e2
      subst e1 e2
      split at h <;> first | exact (none_ne h).elim | skip
      rename_i r' hr
      injection h with h
      exact key _ r' hr (by intro u hu; exact hu) h.symm
theorem decL_rel {β : Env} {g : Nat → Value} {sl sl' : Slots} (h : decL sl = some sl') (hs : ∀ t v, look t sl = some v → Rel β v (g t)) (t : Nat) (v : SV) (hv : look t sl' = some v) : Rel β v (g t) ∧ ∃ u, look t sl = some u :=
  decL_at h t v hv (fun w hw => hs t w hw)
theorem run_decA {c : Cfg} (h : Run P ro B f R (decAll c)) : Run P ro B f R c := by
  unfold decAll at h
  split at h
  rename_i fn n sl td rest hp nx
  split at h
  · rename_i sl' e
    exact run_slots (fun β g hs t v hv => decL_rel e hs t v hv) h
  · exact h
theorem execX_acc : ∀ {n : Nat} {acc : List Prop} {c : Cfg} {p : Prop}, p ∈ acc → p ∈ (execX P M ro n acc c).1
  | 0, acc, c, p, h => h
  | n + 1, acc, c, p, h => by
    simp only [execX]
    split
    · exact h
    · rename_i cs c' _
      have hm : p ∈ pushAll cs acc := pushAll_mem (.inr h)
      split
      · rename_i e; rw [e] at hm; cases hm
      · rename_i q qs e
        rw [e] at hm
        split <;> exact execX_acc hm
theorem execX_run (hstep : ∀ {c c' : Cfg} {cs : List Prop}, stepD P M ro c = some (cs, c') → All cs → Run P ro B f R c' → Run P ro B f R c) :
    ∀ {n : Nat} {acc cs : List Prop} {c c' : Cfg}, execX P M ro n acc c = (cs, c') → All cs → Run P ro B f R c' → Run P ro B f R c
  | 0, acc, cs, c, c', h, hc, hr => by simp only [execX, Prod.mk.injEq] at h; obtain ⟨rfl, rfl⟩ := h; exact hr
  | n + 1, acc, cs, c, c', h, hc, hr => by
    have h' := h
    simp only [execX] at h
    split at h
    · simp only [Prod.mk.injEq] at h; obtain ⟨rfl, rfl⟩ := h; exact hr
    · rename_i ds c1 e1
      have own : All ds := by
        intro p hp
        apply hc
        have hm : p ∈ pushAll ds acc := pushAll_mem (.inl hp)
        split at h
        · rename_i e; rw [e] at hm; cases hm
        · rename_i q qs e
          rw [e] at hm
          split at h
          · have := execX_acc (P := P) (M := M) (ro := ro) (n := n) (c := decAll c1) hm
            rw [h] at this; exact this
          · have := execX_acc (P := P) (M := M) (ro := ro) (n := n) (c := decTop c1) hm
            rw [h] at this; exact this
      refine hstep e1 own ?_
      split at h
      · split at h
        · exact run_decA (execX_run hstep h hc hr)
        · exact run_dec (execX_run hstep h hc hr)
      · split at h
        · exact run_decA (execX_run hstep h hc hr)
        · exact run_dec (execX_run hstep h hc hr)
theorem run_goX (hmix : P.follows .mixedOrders = true) (hP : Named P) (hB : B.ok) (hM : SumOk P M.sum) (m : Nat) {cs : List Prop} {c c' : Cfg} (h : execX P M ro m [] c = (cs, c')) (hc : conj cs)
    (hr : Run P ro B f R c') : Run P ro B f R c :=
  execX_run (fun h hc hr => stepD_run hmix hP hB hM h hc hr) h (all_conj hc) hr
theorem execY_acc {S : List (Nat × Nat)} : ∀ {n : Nat} {acc : List Prop} {c : Cfg} {p : Prop}, p ∈ acc → p ∈ (execY P M ro S n acc c).1
  | 0, acc, c, p, h => h
  | n + 1, acc, c, p, h => by
    simp only [execY]
    split
    · exact h
    · rename_i cs c' _
      have hm : p ∈ pushAll cs acc := pushAll_mem (.inr h)
      split
      · rename_i e; rw [e] at hm; cases hm
      · rename_i q qs e
        rw [e] at hm
        split
        · exact hm
        · exact execY_acc hm
theorem execY_run {S : List (Nat × Nat)} (hstep : ∀ {c c' : Cfg} {cs : List Prop}, stepD P M ro c = some (cs, c') → All cs → Run P ro B f R c' → Run P ro B f R c) :
    ∀ {n : Nat} {acc cs : List Prop} {c c' : Cfg}, execY P M ro S n acc c = (cs, c') → All cs → Run P ro B f R c' → Run P ro B f R c
  | 0, acc, cs, c, c', h, hc, hr => by simp only [execY, Prod.mk.injEq] at h; obtain ⟨rfl, rfl⟩ := h; exact hr
  | n + 1, acc, cs, c, c', h, hc, hr => by
    have h' := h
    simp only [execY] at h
    split at h
    · simp only [Prod.mk.injEq] at h; obtain ⟨rfl, rfl⟩ := h; exact hr
    · rename_i ds c1 e1
      have own : All ds := by
        intro p hp
        apply hc
        have hm : p ∈ pushAll ds acc := pushAll_mem (.inl hp)
        split at h
        · rename_i e; rw [e] at hm; cases hm
        · rename_i q qs e
          rw [e] at hm
          split at h
          · simp only [Prod.mk.injEq] at h; obtain ⟨rfl, rfl⟩ := h; exact hm
          · have := execY_acc (P := P) (M := M) (ro := ro) (S := S) (n := n) (c := decTop c1) hm
            rw [h] at this; exact this
      refine hstep e1 own ?_
      split at h
      · split at h
        · simp only [Prod.mk.injEq] at h; obtain ⟨rfl, rfl⟩ := h; exact hr
        · exact run_dec (execY_run hstep h hc hr)
      · split at h
        · simp only [Prod.mk.injEq] at h; obtain ⟨rfl, rfl⟩ := h; exact hr
        · exact run_dec (execY_run hstep h hc hr)
theorem run_goY (hmix : P.follows .mixedOrders = true) (hP : Named P) (hB : B.ok) (hM : SumOk P M.sum) (S : List (Nat × Nat)) (m : Nat) {cs : List Prop} {c c' : Cfg} (h : execY P M ro S m [] c = (cs, c')) (hc : conj cs)
    (hr : Run P ro B f R c') : Run P ro B f R c :=
  execY_run (fun h hc hr => stepD_run hmix hP hB hM h hc hr) h (all_conj hc) hr
theorem run_tt {fn : FId} {n d : Nat} {b : Bool} {sl : Slots} {td : List SI} {rest : List SFr} {hp : Hp} {nx : Nat} (h : b = true) (hr : Run P ro B f R ⟨⟨fn, n, (d, .tt) :: sl, td⟩, rest, hp, nx⟩) : Run P ro B f R ⟨⟨fn, n, (d, .sb b) :: sl, td⟩, rest, hp, nx⟩ := by
  subst h; exact run_dec hr
theorem run_ff {fn : FId} {n d : Nat} {b : Bool} {sl : Slots} {td : List SI} {rest : List SFr} {hp : Hp} {nx : Nat} (h : b = false) (hr : Run P ro B f R ⟨⟨fn, n, (d, .ff) :: sl, td⟩, rest, hp, nx⟩) : Run P ro B f R ⟨⟨fn, n, (d, .sb b) :: sl, td⟩, rest, hp, nx⟩ := by
  subst h; exact run_dec hr
end
end Sx
end
section
namespace Sx
open Go
def mlenArg (P : Program) (sl : Slots) : Op → Option (List Prop × Nat)
  | .call { callee := .builtin .len, args := as, argTypes := ts } => match ts.toList, evList sl as.toList with
    | [t], some (cs, [.mp i]) => match P.underlying t with
      | some (.map _ _) => some (cs, i)
      | _ => none
    | _, _ => none
  | _ => none
def keyOf (v : Value) : Int :=
  match v with
  | .int _ a => a
  | _ => 0
theorem mrel_size {β : Env} {q : IntKind} {h : Int → Bool} {E : MEl} {es : Array MapEntry} {c : Nat} (g : MRel β q h E es c) {L : List Int} (hL : L.Nodup) (hm : ∀ a, h a = true ↔ a ∈ L) : es.size = L.length := by
  have h1 : (es.toList.map fun x => keyOf x.key).Nodup := by
    have := g.st.2.2
    rw [List.nodup_iff_pairwise_ne, List.pairwise_map] at this ⊢
    refine this.imp_of_mem fun {a b} ha hb hne e => hne ?_
    obtain ⟨x, hx, _⟩ := g.ent a ha
    obtain ⟨y, hy, _⟩ := g.ent b hb
    rw [hx, hy] at e ⊢
    have e : x = y := e
    rw [e]
  have h2 : ∀ a, a ∈ (es.toList.map fun x => keyOf x.key) ↔ a ∈ L := by
    intro a
    rw [← hm, List.mem_map]
    constructor
    · rintro ⟨x, hx, rfl⟩
      obtain ⟨y, hy, hh, _⟩ := g.ent x hx
      rw [hy]; exact hh
    · intro ha
      obtain ⟨x, hx, hk⟩ := g.has a ha
      exact ⟨x, hx, by rw [hk]; rfl⟩
  have := ((List.perm_ext_iff_of_nodup h1 hL).2 h2).length_eq
  simpa using this
section
variable {P : Program} {ro : Hp} {B : Base} {f : FuncId} {R : Ending → World → Prop}
theorem run_mlen (L : List Int) (hL : L.Nodup) {q : IntKind} {h : Int → Bool} {E : MEl} (hm : ∀ a, h a = true ↔ a ∈ L) {fn : FId} {n : Nat} {sl sl' : Slots} {ops : Array Oper} {i0 : Nat} {o : Oper} {cur : List Oper} {tl : Option (List Nat)} {k : List SI} {rest : List SFr} {hp : Hp} {nx i : Nat} {cs0 : List Prop}
    (ho : mlenArg P sl o.op = some (cs0, i)) (hgd : guardIn ops sl o = some .run) (hc0 : conj cs0) (hi : hget i hp = some (.map q h E)) (hput : put o.dst (.int .i64 L.length) n sl = some sl')
    (hr : Run P ro B f R ⟨⟨fn, n, sl', .reg ops (i0 + 1) cur tl :: k⟩, rest, hp, nx⟩) :
    Run P ro B f R ⟨⟨fn, n, sl, .reg ops i0 (o :: cur) tl :: k⟩, rest, hp, nx⟩ := by
  refine run_opz (Z := Unit) (G := fun _ => True) (sz := fun _ => .int .i64 L.length) (hpz := fun _ => hp) (nxz := fun _ => nx) (fun _ _ => ⟨sl', hput, hr⟩) ?_
  intro β w tmps b k' fs r dd hn hsl hlt hs hk hop
  have hw := guard_rel hgd hn hsl hlt
  have hrho : Rho β sl (Act.eval ⟨tmps, dd⟩) := ⟨hsl, fun _ => rfl, fun _ => rfl⟩
  generalize ho' : o.op = op at ho
  unfold mlenArg at ho
  split at ho <;> first | exact (none_ne ho).elim | skip
  rename_i as ts
  split at ho <;> first | exact (none_ne ho).elim | skip
  rename_i t cs1 i1 e1 e2
  split at ho <;> first | exact (none_ne ho).elim | skip
  rename_i kt et hu
  simp only [Option.some.injEq, Prod.mk.injEq] at ho
  obtain ⟨rfl, rfl⟩ := ho
  obtain ⟨v1, vs1, k1, ⟨bm, k2, rfl⟩, k3⟩ := evList_rel hrho e2 (all_conj hc0)
  have k3 : vs1 = [] := k3
  subst k3
  have ha : as.map (Act.eval ⟨tmps, dd⟩) = #[.map (some bm)] := by
    apply Array.toList_inj.1
    rw [Array.toList_map, k1]
  have ht : ts = #[t] := by apply Array.ext'; simpa using e1
  obtain ⟨b', ob, q1, q2, q3, q4, q5⟩ := hs.own _ _ hi trivial
  rw [k2] at q1; injection q1 with q1; subst q1
  obtain ⟨es, c, rfl, g⟩ := q4
  have hsz := mrel_size g hL hm
  refine ⟨(), β, w, .int .i64 L.length, trivial, Env.le_refl _, hs, rfl, .one (op_value hop hw ?_)⟩
  simp only [execOp, ho', Sem.run_bind, resolve, Sem.run_pure, Result.andThen, invoke, builtin, ha, ht]
  simp only [Builtin.len_, Sem.run_bind, run_underlying hu, Result.andThen, List.getElem?_toArray, List.getElem?_cons_zero, MapKept.run_getObj_map q3, Sem.run_pure, hsz]
  rfl
/-- The same, the number told. -/
theorem run_mlenN (L : List Int) (N : Int) (hN : (L.length : Int) = N) (hL : L.Nodup) {q : IntKind} {h : Int → Bool} {E : MEl} (hm : ∀ a, h a = true ↔ a ∈ L) {fn : FId} {n : Nat} {sl sl' : Slots} {ops : Array Oper} {i0 : Nat} {o : Oper} {cur : List Oper} {tl : Option (List Nat)} {k : List SI} {rest : List SFr} {hp : Hp} {nx i : Nat} {cs0 : List Prop}
    (ho : mlenArg P sl o.op = some (cs0, i)) (hgd : guardIn ops sl o = some .run) (hc0 : conj cs0) (hi : hget i hp = some (.map q h E)) (hput : put o.dst (.int .i64 N) n sl = some sl')
    (hr : Run P ro B f R ⟨⟨fn, n, sl', .reg ops (i0 + 1) cur tl :: k⟩, rest, hp, nx⟩) :
    Run P ro B f R ⟨⟨fn, n, sl, .reg ops i0 (o :: cur) tl :: k⟩, rest, hp, nx⟩ := by
  subst hN
  exact run_mlen L hL hm ho hgd hc0 hi hput hr
end
/-- A contract that asks less of a block that is only read. -/
theorem hc_lessR {ι : Type} {P : Program} {f : FuncId} {xs : List SV} {hp ro ro' : Hp} {nx : Nat} {ψ : ι → Prop} {out : ι → Out} (h : HC P f xs hp ro' nx ψ out)
    (hk : ∀ i s', hget i ro' = some s' → s'.Live → ∃ s, hget i ro = some s ∧ s.Live ∧ ∀ β o, ORel β s o → ORel β s' o) : HC P f xs hp ro nx ψ out := by
  intro B β w vs hB hl hs
  have hs' : Sat β hp ro' B nx w := ⟨⟨hs.own, hs.apart, fun i s' hi hl => by
    obtain ⟨s, h1, h2, h3⟩ := hk i s' hi hl
    obtain ⟨b, o, g1, g2, g3⟩ := hs.read i s h1 h2
    exact ⟨b, o, g1, g2, h3 _ _ g3⟩, hs.old, hs.os, hs.tape, hs.output, hs.size, hs.pin⟩, hs.fresh⟩
  refine (h B β w vs hB hl hs').mono ?_
  rintro e w' ⟨z, β', u, h1, h2, h3, h4, h5⟩
  exact ⟨z, β', u, h1, h2, h3, h4, ⟨⟨h5.own, h5.apart, fun i s hi hl => by
    obtain ⟨b, o, g1, g2, g3⟩ := hs.read i s hi hl
    exact ⟨b, o, h2 _ _ g1, g2, g3.mono h2⟩, h5.old, h5.os, h5.tape, h5.output, h5.size, h5.pin⟩, h5.fresh⟩⟩
theorem cells_less {vs' vs : List SV} {ty : TypeId} {cs : List Prop} (h : eqL vs' vs = some cs) (hc : conj cs) : ∀ i s', hget i [(0, SO.cells vs' ty)] = some s' → s'.Live → ∃ s, hget i [(0, SO.cells vs ty)] = some s ∧ s.Live ∧ ∀ β o, ORel β s o → ORel β s' o := by
  intro i s' hi _
  simp only [hget] at hi ⊢
  cases hb : Nat.beq i 0 with
  | true =>
    rw [hb] at hi; simp only [cond_true, Option.some.injEq] at hi
    subst hi
    refine ⟨_, rfl, trivial, fun β o ho => ?_⟩
    obtain ⟨us, e, hl⟩ := ho
    exact ⟨us, e, eqL_less _ _ _ h (all_conj hc) β us hl⟩
  | false => rw [hb] at hi; cases hi
end Sx
end
section
namespace Sx
open Go
section
variable {P : Program} {ro : Hp} {B : Base} {f : FuncId} {R : Ending → World → Prop}
/-- A row whose elements from s to s + m are those of g from s' on. -/
def cpyF (f : Nat → Nat → SV) (s m : Nat) (g : Nat → Nat → SV) (s' : Nat) : Nat → Nat → SV := fun i k => if s ≤ i ∧ i < s + m then g (s' + (i - s)) k else f i k
structure CpyA where
  i : Nat
  off : Nat
  s : Nat
  m : Nat
  j : Nat
  off2 : Nat
  s2 : Nat
  m2 : Nat
def cpyArg (P : Program) (sl : Slots) : Op → Option (List Prop × CpyA)
  | .call { callee := .builtin .copy, args := as, argTypes := ts } => match ts.toList, evList sl as.toList with
    | [t, _], some (cs, [.sq i off s 1 m _, .sq j off2 s2 1 m2 _]) => match P.underlying t with
      | some (.slice e) => match sizeIn P e with
        | some 1 => some (cs, ⟨i, off, s, m, j, off2, s2, m2⟩)
        | _ => none
      | _ => none
    | _, _ => none
  | _ => none
theorem run_rcopy {fn : FId} {n : Nat} {sl sl' : Slots} {ops : Array Oper} {i0 : Nat} {o : Oper} {cur : List Oper} {tl : Option (List Nat)} {k : List SI} {rest : List SFr} {hp hp' : Hp} {nx N cap N2 cap2 : Nat} {f0 g : Nat → Nat → SV} {ty ty2 : TypeId} {c : CpyA} {cs0 : List Prop} (q : Nat)
    (ho : cpyArg P sl o.op = some (cs0, c)) (hgd : guardIn ops sl o = some .run) (hc0 : conj cs0) (hi : hget c.i hp = some (.row c.off N cap 1 f0 ty)) (hj : hget c.j hp = some (.row c.off2 N2 cap2 1 g ty2)) (hij : c.i ≠ c.j)
    (hq : q = Nat.min c.m2 c.m) (h0 : 0 < q) (hsm : c.s + c.m ≤ N) (hsm2 : c.s2 + c.m2 ≤ N2) (hint : ∀ a, a < q → ∃ k z, g (c.s2 + a) 0 = .int k z)
    (hset' : hset c.i (.row c.off N cap 1 (cpyF f0 c.s q g c.s2) ty) hp = some hp') (hput : put o.dst (.int .i64 q) n sl = some sl')
    (hr : Run P ro B f R ⟨⟨fn, n, sl', .reg ops (i0 + 1) cur tl :: k⟩, rest, hp', nx⟩) :
    Run P ro B f R ⟨⟨fn, n, sl, .reg ops i0 (o :: cur) tl :: k⟩, rest, hp, nx⟩ := by
  have hqm : q ≤ c.m := by rw [hq]; exact Nat.min_le_right _ _
  have hqm2 : q ≤ c.m2 := by rw [hq]; exact Nat.min_le_left _ _
  refine run_opz (Z := Unit) (G := fun _ => True) (sz := fun _ => .int .i64 q) (hpz := fun _ => hp') (nxz := fun _ => nx) (fun _ _ => ⟨sl', hput, hr⟩) ?_
  intro β w tmps b k' fs r dd hn hsl hlt hs hk hop
  have hw := guard_rel hgd hn hsl hlt
  have hrho : Rho β sl (Act.eval ⟨tmps, dd⟩) := ⟨hsl, fun _ => rfl, fun _ => rfl⟩
  generalize hop' : o.op = op at ho
  unfold cpyArg at ho
  split at ho <;> first | exact (none_ne ho).elim | skip
  rename_i as ts
  split at ho <;> first | exact (none_ne ho).elim | skip
  rename_i t t' cs' i' off' s' m' ap j' off2' s2' m2' ap2 e1 e2
  split at ho <;> first | exact (none_ne ho).elim | skip
  rename_i e hu
  split at ho <;> first | exact (none_ne ho).elim | skip
  rename_i hz
  simp only [Option.some.injEq, Prod.mk.injEq] at ho
  obtain ⟨rfl, rfl⟩ := ho
  simp only at hi hj hij hq hsm hsm2 hint hset' hqm hqm2
  obtain ⟨v1, vs1, k1, ⟨base, room, rfl, q1, q2, q3, q4⟩, ⟨v2, vs2, rfl, ⟨base2, room2, rfl, p1, p2, p3, p4⟩, rfl⟩⟩ := evList_rel hrho e2 (all_conj hc0)
  have ha : as.map (Act.eval ⟨tmps, dd⟩) = #[.slice base m' room, .slice base2 m2' room2] := by
    apply Array.toList_inj.1
    rw [Array.toList_map, k1]
  have ht : ts = #[t, t'] := by apply Array.toList_inj.1; rw [e1]
  obtain ⟨b', ob, g1, g2, g3, g4, g5⟩ := hs.own _ _ hi (by show 0 < N; omega)
  obtain ⟨cc, fz, tt, c0, rfl, c1, c2, c3⟩ := g4
  have hfz : fz = (0, 0) := g5.l
  subst hfz
  obtain ⟨b2, ob2, x1, x2, x3, x4, x5⟩ := hs.own _ _ hj (by show 0 < N2; omega)
  obtain ⟨cd, fz2, tt2, d0, rfl, d1, d2, d3⟩ := x4
  have hbb : b' ≠ b2 := fun e => by
    refine hs.apart _ _ _ _ hi hj (by show 0 < N; omega) (by show 0 < N2; omega) hij ?_
    rw [g1, x1, e]
  obtain ⟨r1, bb, r2, rfl, r3⟩ := q4 (by omega)
  rw [g1] at r2; injection r2 with r2; subst r2
  obtain ⟨s1, bc, s2, rfl, s3⟩ := p4 (by omega)
  rw [x1] at s2; injection s2 with s2; subst s2
  have hsz : off' + (s' + m') ≤ cc.size := by omega
  obtain ⟨vsrc, hvl, hv⟩ : ∃ vs : List Value, vs.length = q ∧ ∀ a, a < q → ∃ u, vs[a]? = some u ∧ cd[off2' + (s2' + a)]? = some u ∧ Rel β (g (s2' + a) 0) u := by
    refine ⟨(List.range q).map fun a => (cd[off2' + (s2' + a)]?).getD undef, by simp, fun a ha => ?_⟩
    obtain ⟨u, hu1, hu2⟩ := d3 (s2' + a) 0 (by omega) (by omega)
    have hu1' : cd[off2' + (s2' + a)]? = some u := by rw [← hu1]; congr 1; omega
    refine ⟨u, ?_, hu1', hu2⟩
    simp [ha, hu1']
  obtain ⟨c', y1, y2, y3, y4, y5, y6, y7, y8, y9⟩ := setCells_cells b' tt (0, 0) vsrc (off' + s' * 1) w cc g3 (by rw [hvl]; omega)
  refine ⟨(), β, w.setCells b' (off' + s' * 1) vsrc, .int .i64 q, trivial, Env.le_refl _, ?_, rfl, .one (op_value hop hw ?_)⟩
  · refine ⟨hs.toMem.set hset' ⟨hi, by show 0 < N; omega⟩ g1 ⟨c', (0, 0), tt, c0, rfl, c1, by omega, fun a j ha hj => ?_⟩ ⟨rfl, by show _ ≤ c'.size; rw [y2]; exact g5.s⟩ y1 (fun k hk => y5 k hk) y6 y7 y8 y9, hs.fresh⟩
    obtain ⟨u, hu1, hu2⟩ := c3 a j ha hj
    have hj0 : j = 0 := by omega
    subst hj0
    by_cases hq2 : s' ≤ a ∧ a < s' + q
    · obtain ⟨u', w1, w2, w3⟩ := hv (a - s') (by omega)
      refine ⟨u', ?_, by unfold cpyF; rw [if_pos hq2]; exact w3⟩
      have := y3 (a - s') (by rw [hvl]; omega)
      rw [show off' + s' * 1 + (a - s') = off' + a * 1 + 0 by omega] at this
      rw [this, w1]
    · refine ⟨u, ?_, by unfold cpyF; rw [if_neg hq2]; exact hu2⟩
      rw [y4 _ (by rw [hvl]; omega)]; exact hu1
  · have hz' : (P.info? e).map (·.size) = some 1 := by
      unfold sizeIn at hz
      split at hz
      · rename_i inf hinf
        injection hz with hz
        simp [hinf, hz]
      · cases hz
    have hrun := run_copy_cells (P := P) w t t' o.type e b' (off' + s' * 1) m' room ⟨b2, off2' + s2' * 1, none⟩ m2' room2 vsrc hu hz' (by rw [hvl]; exact hq) (fun j v hjv => ?_) (fun j hj => ?_) (fun j hj => ?_) (fun v hv' => ?_)
    · simp only [execOp, hop', Sem.run_bind, resolve, Sem.run_pure, Result.andThen, invoke, builtin, ha, ht, hrun, hvl]
      rfl
    · have hjl : j < q := by
        have := (List.getElem?_eq_some_iff.1 hjv).1
        omega
      obtain ⟨u', w1, w2, w3⟩ := hv j hjl
      rw [w1] at hjv; injection hjv with hjv; subst hjv
      have hadd : (⟨b2, off2' + s2' * 1, none⟩ : Addr).add j = ⟨b2, off2' + s2' * 1 + j, none⟩ := by unfold Addr.add; split <;> simp_all
      rw [hadd]
      have w2' : cd[off2' + s2' * 1 + j]? = some u' := by rw [← w2]; congr 1; omega
      simp only [World.cell?, x3]
      exact w2'
    · have : off' + s' * 1 + j < cc.size := by omega
      simp [World.cell?, g3]
      omega
    · simp [World.frozen?, g3]
    · obtain ⟨a, ha1⟩ := List.getElem?_of_mem hv'
      have hal : a < q := by
        have := (List.getElem?_eq_some_iff.1 ha1).1
        omega
      obtain ⟨u', w1, w2, w3⟩ := hv a hal
      rw [w1] at ha1; injection ha1 with ha1; subst ha1
      obtain ⟨kk, z, hz2⟩ := hint a hal
      rw [hz2] at w3
      have w3 : u' = .int kk z := w3
      rw [w3]; rfl
end
end Sx
end
section
namespace Sx
open Go

/-- What is known of some blocks. -/
abbrev Kn := Nat → Option Obj
/-- From B, where K0 is known, to B, where K is known: only what M names may have changed, and what is new was not there before. -/
structure Fz (B0 : Base) (K0 : Kn) (M : Nat → Prop) (B : Base) (K : Kn) : Prop where
  ok : B.ok
  kd : B.kd = B0.kd
  pin : B0.pin.le B.pin
  os : B.w.os = B0.w.os
  tape : B.w.tape = B0.w.tape
  output : B.w.output = B0.w.output
  size : B0.w.heap.size ≤ B.w.heap.size
  keep : ∀ b o, B0.D b = some o → ¬ M b → B.D b = some o
  le : ∀ b o, K b = some o → B.D b = some o
  old : ∀ b o, K0 b = some o → ¬ M b → K b = some o
  new : ∀ b o, K b = some o → K0 b ≠ none ∨ B0.D b = none
abbrev M0 : Nat → Prop := fun _ => False
theorem Fz.refl {B : Base} {K : Kn} {M : Nat → Prop} (hB : B.ok) (hK : ∀ b o, K b = some o → B.D b = some o) : Fz B K M B K :=
  ⟨hB, rfl, Env.le_refl _, rfl, rfl, rfl, Nat.le_refl _, fun _ _ h _ => h, hK, fun _ _ h _ => h, fun _ _ h => .inl (by rw [h]; simp)⟩
theorem Fz.trans {B0 B1 B2 : Base} {K0 K1 K2 : Kn} {M M' : Nat → Prop} (h : Fz B0 K0 M B1 K1) (g : Fz B1 K1 M' B2 K2) (hK : ∀ b o, K0 b = some o → B0.D b = some o) (hM : ∀ b, M b → K0 b ≠ none) (hMM : ∀ b, M' b → M b ∨ B0.D b = none) : Fz B0 K0 M B2 K2 := by
  refine ⟨g.ok, g.kd.trans h.kd, Env.le_trans h.pin g.pin, g.os.trans h.os, g.tape.trans h.tape, g.output.trans h.output, Nat.le_trans h.size g.size, fun b o e hm => ?_, g.le, fun b o e hm => ?_, fun b o e => ?_⟩
  · refine g.keep b o (h.keep b o e hm) fun hm' => ?_
    rcases hMM b hm' with q | q
    · exact hm q
    · rw [e] at q; cases q
  · refine g.old b o (h.old b o e hm) fun hm' => ?_
    rcases hMM b hm' with q | q
    · exact hm q
    · rw [hK b o e] at q; cases q
  · rcases g.new b o e with q | q
    · cases hk : K1 b with
      | none => exact absurd hk q
      | some o1 => exact h.new b o1 hk
    · by_cases hm : M b
      · exact .inl (hM b hm)
      · right
        cases hb : B0.D b with
        | none => rfl
        | some o1 => rw [h.keep b o1 hb hm] at q; cases q
theorem Fz.trans0 {B0 B1 B2 : Base} {K0 K1 K2 : Kn} {M : Nat → Prop} (h : Fz B0 K0 M B1 K1) (g : Fz B1 K1 M0 B2 K2) (hK : ∀ b o, K0 b = some o → B0.D b = some o) (hM : ∀ b, M b → K0 b ≠ none) : Fz B0 K0 M B2 K2 := h.trans g hK hM fun _ h => h.elim
theorem Fz.more {B0 B1 B2 : Base} {K0 K1 : Kn} {M : Nat → Prop} (h : Fz B0 K0 M B1 K1) (g : More B1 B2) : Fz B0 K0 M B2 K1 := by
  obtain ⟨D2, w2, p2, k2⟩ := B2
  obtain ⟨g1, g2, g3, g4⟩ := g
  simp only at g1 g2 g3 g4
  subst g1 g2 g4
  exact ⟨h.ok, h.kd, Env.le_trans h.pin g3, h.os, h.tape, h.output, h.size, h.keep, h.le, h.old, h.new⟩
/-- The base before stands as well, where nothing known may change. -/
theorem Fz.sat {B0 B : Base} {K0 K : Kn} (h : Fz B0 K0 M0 B K) {β : Env} {hp : Hp} {nx : Nat} {w : World} (hs : Sat β hp [] B nx w) : Sat β hp [] B0 nx w := by
  refine ⟨⟨fun i s hi hl => ?_, hs.apart, fun _ _ h => (none_ne h).elim, fun b o e => hs.old b o (h.keep b o e (fun h => h)), hs.os.trans h.os, hs.tape.trans h.tape, hs.output.trans h.output, Nat.le_trans h.size hs.size, Env.le_trans h.pin hs.pin⟩, hs.fresh⟩
  obtain ⟨b, o, h1, h2, h3, h4, h5⟩ := hs.own i s hi hl
  refine ⟨b, o, h1, ?_, h3, h4, h5⟩
  cases hb : B0.D b with
  | none => rfl
  | some o' => rw [h.keep b o' hb (fun h => h)] at h2; cases h2

theorem PinTo.fz {B B' : Base} {np : Nat} {K K' : Kn} {M : Nat → Prop} (h : PinTo B np) (hF : Fz B K M B' K') (hp : B'.pin = B.pin) : PinTo B' np := ⟨fun i hi => by rw [hp]; exact h.p i hi, hF.kd.trans h.k⟩
/-- v is a slice of n elements of sz cells, which are f: known for good. -/
def Froz (K : Kn) (v : Value) (n sz : Nat) (f : Nat → Nat → SV) : Prop :=
  ∃ base room, v = .slice base n room ∧ (base = none → room = 0) ∧
    (0 < n → n ≤ room ∧ ∃ b o c tt fz, base = some ⟨b, o, none⟩ ∧ K b = some (.cells c tt fz) ∧ ∀ i k, i < n → k < sz → ∃ u, c[o + i * sz + k]? = some u ∧ Rel Env.nil (f i k) u)
theorem Froz.mono {K K' : Kn} {v : Value} {n sz : Nat} {f : Nat → Nat → SV} (h : Froz K v n sz f) (g : ∀ b o, K b = some o → K' b = some o) : Froz K' v n sz f := by
  obtain ⟨base, room, h1, h2, h3⟩ := h
  refine ⟨base, room, h1, h2, fun h0 => ?_⟩
  obtain ⟨h4, b, o, c, tt, fz, h5, h6, h7⟩ := h3 h0
  exact ⟨h4, b, o, c, tt, fz, h5, g _ _ h6, h7⟩
theorem Froz.fz {B B' : Base} {K K' : Kn} {v : Value} {n sz : Nat} {f : Nat → Nat → SV} (h : Froz K v n sz f) (g : Fz B K M0 B' K') : Froz K' v n sz f := h.mono fun b o e => g.old b o e (fun h => h)
theorem Froz.nil (K : Kn) (sz : Nat) (f : Nat → Nat → SV) : Froz K (.slice none 0 0) 0 sz f := ⟨none, 0, rfl, fun _ => rfl, fun h => absurd h (Nat.lt_irrefl 0)⟩
theorem Froz.congr {K : Kn} {v : Value} {n sz : Nat} {f g : Nat → Nat → SV} (h : Froz K v n sz f) (e : ∀ i k, i < n → k < sz → g i k = f i k) : Froz K v n sz g := by
  obtain ⟨base, room, h1, h2, h3⟩ := h
  refine ⟨base, room, h1, h2, fun h0 => ?_⟩
  obtain ⟨h4, b, o, c, tt, fz, h5, h6, h7⟩ := h3 h0
  refine ⟨h4, b, o, c, tt, fz, h5, h6, fun i k hi hk => ?_⟩
  rw [e i k hi hk]; exact h7 i k hi hk
section
variable {P : Program} {ro : Hp} {B : Base} {f : FuncId} {R : Ending → World → Prop}
/-- A known slice is laid open to be read. -/
theorem run_open {K : Kn} (hK : ∀ b o, K b = some o → B.D b = some o) (t : Nat) {v : Value} {m sz : Nat} {g : Nat → Nat → SV} (hF : Froz K v m sz g) (hsz : 0 < sz) {fn : FId} {n : Nat} {sl : Slots} {td : List SI} {rest : List SFr} {hp : Hp} {nx : Nat} (ht : look t sl = some (.val v))
    (hr : ∀ off, Run P ((nx, .row off m m sz g anyTy) :: ro) B f R ⟨⟨fn, n, (t, .sq nx off 0 sz m .no) :: sl, td⟩, rest, hp, nx + 1⟩) : Run P ro B f R ⟨⟨fn, n, sl, td⟩, rest, hp, nx⟩ := by
  intro β w fr frs cs hf hfs hs hcs
  obtain ⟨base, room, e1, e2, e3⟩ := hF
  have hv : fr.tmps.getD t undef = v := (hf.slot t _ ht).1
  have key : ∃ off, ∃ β' : Env, β.le β' ∧ Rel β' (.sq nx off 0 sz m .no) v ∧ Sat β' hp ((nx, .row off m m sz g anyTy) :: ro) B (nx + 1) w := by
    rcases Nat.eq_zero_or_pos m with h0 | h0
    · subst h0
      refine ⟨0, β, Env.le_refl _, ⟨base, room, e1, e2, fun h => (by cases h), fun h => (by cases h), fun h => absurd h (Nat.lt_irrefl _)⟩, ⟨⟨hs.own, hs.apart, fun i s hi hl => ?_, hs.old, hs.os, hs.tape, hs.output, hs.size, hs.pin⟩, fun i hi => hs.fresh i (by show nx ≤ i; omega)⟩⟩
      simp only [hget] at hi
      cases hb : Nat.beq i nx with
      | true => rw [hb] at hi; simp only [cond_true, Option.some.injEq] at hi; subst hi; exact absurd hl (Nat.lt_irrefl 0)
      | false => rw [hb] at hi; exact hs.read i s hi hl
    · obtain ⟨h4, b, o, c, tt, fz, h5, h6, h7⟩ := e3 h0
      have hfr := hs.fresh nx (Nat.le_refl _)
      have hle := Env.le_add (b := b) (r := 0) hfr
      have hne : ∀ i b', β i = some b' → i ≠ nx := by
        intro i b' h e; subst e; rw [hfr] at h; cases h
      refine ⟨o, β.add nx b 0, hle, ⟨base, room, e1, e2, fun h => (by cases h), fun h => (by cases h), fun _ => ⟨h4, b, Env.add_same _ _ _ _, by rw [h5]; simp, fun h => (by cases h)⟩⟩, ⟨⟨fun i s hi hl => ?_, fun i j s t hi hj hl ht hij => ?_, fun i s hi hl => ?_, hs.old, hs.os, hs.tape, hs.output, hs.size, Env.le_trans hs.pin hle⟩, fun i hi => ?_⟩⟩
      · obtain ⟨b', o', h1, h2, h3, h4, h5⟩ := hs.own i s hi hl
        have hn := hne i b' h1
        exact ⟨b', o', (Env.add_other _ _ _ hn).trans h1, h2, h3, ORel.mono hle _ _ h4, by rw [Env.add_room_other _ _ _ hn]; exact h5⟩
      · obtain ⟨b1, o1, h1, _⟩ := hs.own i s hi hl
        obtain ⟨b2, o2, h2, _⟩ := hs.own j t hj ht
        rw [Env.add_other _ _ _ (hne i b1 h1), Env.add_other _ _ _ (hne j b2 h2)]
        exact hs.apart i j s t hi hj hl ht hij
      · simp only [hget] at hi
        cases hb : Nat.beq i nx with
        | true =>
          rw [hb] at hi; simp only [cond_true, Option.some.injEq] at hi; subst hi
          have := beq_nat hb; subst this
          refine ⟨b, _, Env.add_same _ _ _ _, hK _ _ h6, c, fz, tt, .inl rfl, rfl, Nat.le_refl _, ?_, fun i k hi hk => ?_⟩
          · obtain ⟨u, hu, _⟩ := h7 (m - 1) (sz - 1) (by omega) (by omega)
            have := (Array.getElem?_eq_some_iff.1 hu).1
            have h8 : (m - 1) * sz + sz = m * sz := by
              obtain ⟨q, rfl⟩ : ∃ q, m = q + 1 := ⟨m - 1, by omega⟩
              simp [Nat.succ_mul]
            omega
          · obtain ⟨u, hu, hr⟩ := h7 i k hi hk
            exact ⟨u, hu, Rel.mono (Env.nil_le _) _ _ hr⟩
        | false =>
          rw [hb] at hi
          obtain ⟨b', o', h1, h2, h3⟩ := hs.read i s hi hl
          exact ⟨b', o', (Env.add_other _ _ _ (hne i b' h1)).trans h1, h2, ORel.mono hle _ _ h3⟩
      · rw [Env.add_other _ _ _ (by omega)]; exact hs.fresh i (by show nx ≤ i; omega)
  obtain ⟨off, β', hle, hrel, hs'⟩ := key
  refine hr off β' w fr frs cs ?_ (hfs.mono hle) hs' hcs
  have hf' := hf.mono hle
  refine { hf' with slot := fun t' u hu => ?_, lt := fun t' u hu => ?_ }
  · simp only [look] at hu
    cases hb : Nat.beq t' t with
    | true =>
      rw [hb] at hu; simp only [cond_true, Option.some.injEq] at hu; subst hu
      have := beq_nat hb; subst this
      rw [hv]; exact hrel
    | false => rw [hb] at hu; exact hf'.slot t' u hu
  · simp only [look] at hu
    cases hb : Nat.beq t' t with
    | true => have := beq_nat hb; subst this; exact hf.lt t' _ ht
    | false => rw [hb] at hu; exact hf'.lt t' u hu
/-- Rows to read are given up. -/
theorem run_close {x : Nat × SO} {c : Cfg} (hx : hget x.1 ro = none ∨ ∀ s, hget x.1 ro = some s → ¬ s.Live) (hr : Run P ro B f R c) : Run P (x :: ro) B f R c := by
  intro β w fr frs cs hf hfs hs
  refine hr β w fr frs cs hf hfs ⟨⟨hs.own, hs.apart, fun i s hi hl => ?_, hs.old, hs.os, hs.tape, hs.output, hs.size, hs.pin⟩, hs.fresh⟩
  refine hs.read i s ?_ hl
  obtain ⟨j, y⟩ := x
  simp only [hget]
  cases hb : Nat.beq i j with
  | true =>
    have := beq_nat hb; subst this
    rcases hx with hx | hx
    · simp only at hx; rw [hx] at hi; cases hi
    · exact absurd hl (hx s hi)
  | false => exact hi
/-- A slice's row is written no more. -/
theorem run_freeze {K : Kn} (hB : B.ok) (hK : ∀ b o, K b = some o → B.D b = some o) (t : Nat) {i off sz m m' cap : Nat} {ap : Ap} {g : Nat → Nat → SV} {ty : TypeId} {fn : FId} {n : Nat} {sl : Slots} {td : List SI} {rest : List SFr} {hp hp' : Hp} {nx : Nat}
    (ht : look t sl = some (.sq i off 0 sz m ap)) (hi : hget i hp = some (.row off m' cap sz g ty)) (hm : m ≤ m') (hcl : ∀ i k, i < m → k < sz → (g i k).closed = true) (hd : hdrop [i] hp some = some hp')
    (hr : ∀ v B' K', Froz K' v m sz g → Fz B K M0 B' K' → B'.pin = B.pin → Run P ro B' f R ⟨⟨fn, n, (t, .val v) :: sl, td⟩, rest, hp', nx⟩) : Run P ro B f R ⟨⟨fn, n, sl, td⟩, rest, hp, nx⟩ := by
  intro β w fr frs cs hf hfs hs hcs
  rw [hdrop_eq] at hd
  injection hd with hd; subst hd
  obtain ⟨base, room, e1, e2, e3, e4, e5⟩ := hf.slot t _ ht
  have own' : ∀ j s, hget j (hdrop' [i] hp) = some s → hget j hp = some s ∧ j ≠ i := by
    intro j s hj
    rw [hdrop_get] at hj
    split at hj
    · cases hj
    · rename_i hn; exact ⟨hj, fun e => hn (by rw [e]; exact List.mem_singleton.2 rfl)⟩
  have hfs' : FrRel β ⟨fn, n, (t, .val (fr.tmps.getD t undef)) :: sl, td⟩ fr := by
    refine { hf with slot := fun t' u hu => ?_, lt := fun t' u hu => ?_ }
    · simp only [look] at hu
      cases hb : Nat.beq t' t with
      | true =>
        rw [hb] at hu; simp only [cond_true, Option.some.injEq] at hu; subst hu
        have := beq_nat hb; subst this
        refine ⟨rfl, ?_⟩
        rw [e1]; rfl
      | false => rw [hb] at hu; exact hf.slot t' u hu
    · simp only [look] at hu
      cases hb : Nat.beq t' t with
      | true => have := beq_nat hb; subst this; exact hf.lt t' _ ht
      | false => rw [hb] at hu; exact hf.lt t' u hu
  rcases Nat.eq_zero_or_pos m with h0 | h0
  · subst h0
    refine hr _ B K ⟨base, room, e1, e2, fun h => absurd h (Nat.lt_irrefl _)⟩ (.refl hB hK) rfl β w fr frs cs hfs' hfs ⟨⟨fun j s hj hl => hs.own j s (own' j s hj).1 hl, fun j k s u hj hk => hs.apart j k s u (own' j s hj).1 (own' k u hk).1, hs.read, hs.old, hs.os, hs.tape, hs.output, hs.size, hs.pin⟩, hs.fresh⟩ hcs
  · obtain ⟨b, o, h1, h2, h3, h4, h5⟩ := hs.own i _ hi (show 0 < m' by omega)
    obtain ⟨c, fz, tt, q1, q2, q3, q4, q5⟩ := h4
    obtain ⟨g1, b', g2, g3, _⟩ := e5 h0
    rw [h1] at g2; injection g2 with g2; subst g2
    have KB : ∀ x, (if x = b then some o else B.D x) = if x = b then some o else B.D x := fun _ => rfl
    let B' : Base := ⟨fun x => if x = b then some o else B.D x, w, B.pin, B.kd⟩
    let K' : Kn := fun x => if x = b then some o else K x
    have hBb : ∀ x o', B.D x = some o' → x ≠ b := by
      intro x o' hx e; subst e; rw [h2] at hx; cases hx
    have hF : Fz B K M0 B' K' := by
      refine ⟨fun x o' hx => ?_, rfl, Env.le_refl _, hs.os, hs.tape, hs.output, hs.size, fun x o' hx _ => ?_, fun x o' hx => ?_, fun x o' hx _ => ?_, fun x o' hx => ?_⟩
      · by_cases e : x = b
        · subst e; exact (Array.getElem?_eq_some_iff.1 h3).1
        · have hx : B.D x = some o' := by simpa [B', e] using hx
          exact Nat.lt_of_lt_of_le (hB x o' hx) hs.size
      · show (if x = b then some o else B.D x) = some o'
        rw [if_neg (hBb x o' hx)]; exact hx
      · show (if x = b then some o else B.D x) = some o'
        by_cases e : x = b
        · simpa [K', e] using hx
        · rw [if_neg e]; exact hK x o' (by simpa [K', e] using hx)
      · show (if x = b then some o else K x) = some o'
        rw [if_neg (hBb x o' (hK x o' hx))]; exact hx
      · by_cases e : x = b
        · subst e; exact .inr h2
        · left; have : K x = some o' := by simpa [K', e] using hx
          rw [this]; simp
    refine hr _ B' K' ⟨base, room, e1, e2, fun _ => ⟨g1, b, off, c, tt, fz, by rw [g3]; simp, by show (if b = b then some o else K b) = _; rw [if_pos rfl, q2], fun i k hi hk => ?_⟩⟩ hF rfl β w fr frs cs hfs' hfs ?_ hcs
    · obtain ⟨u, hu, hr⟩ := q5 i k (by omega) hk
      exact ⟨u, hu, Rel.closed _ _ (hcl i k hi hk) hr⟩
    · refine ⟨⟨fun j s hj hl => ?_, fun j k s u hj hk => hs.apart j k s u (own' j s hj).1 (own' k u hk).1, fun j s hj hl => ?_, fun x o' hx => ?_, rfl, rfl, rfl, Nat.le_refl _, hs.pin⟩, hs.fresh⟩
      · obtain ⟨hj, hne⟩ := own' j s hj
        obtain ⟨bj, oj, j1, j2, j3, j4, j5⟩ := hs.own j s hj hl
        refine ⟨bj, oj, j1, ?_, j3, j4, j5⟩
        show (if bj = b then some o else B.D bj) = none
        rw [if_neg, j2]
        intro e
        exact hs.apart j i s _ hj hi hl (show 0 < m' by omega) hne (by rw [j1, h1, e])
      · obtain ⟨bj, oj, j1, j2, j3⟩ := hs.read j s hj hl
        refine ⟨bj, oj, j1, ?_, j3⟩
        show (if bj = b then some o else B.D bj) = some oj
        rw [if_neg (hBb bj oj j2)]; exact j2
      · have hx : (if x = b then some o else B.D x) = some o' := hx
        by_cases e : x = b
        · subst e; simp at hx; subst hx; exact h3
        · rw [if_neg e] at hx; exact hs.old x o' hx
end

theorem Sat.calledX {β : Env} {hp ro hpc roc : Hp} {B : Base} {nx : Nat} {w : World} (hs : Sat β hp ro B nx w) (hB : B.ok) {K : Kn} {M : Nat → Prop} (hK : ∀ b o, K b = some o → B.D b = some o) (hM : ∀ b, M b → K b ≠ none) (hro : ro = [] ∨ ∀ b, ¬ M b) {sg : List Nat} {ds es : List Prop}
    (hlt : allLt nx sg = true) (hcov : cover (hkeys hpc ++ hkeys roc) sg.length = true) (h2 : hpM nx sg hp hpc = some ds) (h2' : orM nx sg hp ro roc = some es) (h3 : dist nx sg (hkeys hpc ++ hkeys roc) = true) (hds : All ds) (hes : All es) :
    ∃ B1 : Base, B1.ok ∧ (∀ b o, K b = some o → B1.D b = some o) ∧ Sat (β.via nx sg) hpc roc B1 sg.length w ∧ ∀ (β2 : Env) (w' : World) (hz : Hp) (nz : Nat) (B1' : Base) (K' : Kn), (β.via nx sg).le β2 → Fz B1 K M B1' K' → Sat β2 hz roc B1' nz w' → sg.length ≤ nz →
      ∃ (β'' : Env) (B2 : Base), β.le β'' ∧ (∀ s v, Rel β2 s v → Rel β'' (ren nx sg s) v) ∧ Fz B K M B2 K' ∧ B2.pin = B.pin ∧ Sat β'' (renH' nx sg (hdrop' ((hkeys hpc).map (sig nx sg)) hp) hz) ro B2 (nx + (nz - sg.length)) w' := by
  -- the callee's ground: all that is not handed in
  let foot : Nat → Prop := fun b => ∃ i so s, hget i hpc = some so ∧ hget (sig nx sg i) hp = some s ∧ s.Live ∧ β (sig nx sg i) = some b
  have hD : ∀ (b : Nat), (∃ d : Option Obj, (foot b → d = none) ∧ (¬ foot b → d = w.heap[b]?)) := fun b => by
    by_cases h : foot b
    · exact ⟨none, fun _ => rfl, fun g => absurd h g⟩
    · exact ⟨_, fun g => absurd g h, fun _ => rfl⟩
  have ⟨D, hD⟩ : ∃ D : Nat → Option Obj, ∀ b, (foot b → D b = none) ∧ (¬ foot b → D b = w.heap[b]?) := ⟨fun b => Classical.choose (hD b), fun b => Classical.choose_spec (hD b)⟩
  have hDs : ∀ b o, D b = some o → ¬ foot b ∧ w.heap[b]? = some o := fun b o e => by
    by_cases h : foot b
    · rw [(hD b).1 h] at e; cases e
    · exact ⟨h, by rw [← (hD b).2 h]; exact e⟩
  have hlt' := allLt_spec hlt
  have footD : ∀ b, foot b → B.D b = none := by
    rintro b ⟨i, so, s, _, e1, e2, e3⟩
    obtain ⟨b', o, g1, g2, _⟩ := hs.own _ _ e1 e2
    rw [e3] at g1; injection g1 with g1; subst g1; exact g2
  have hinj : ∀ a b : Nat, sig nx sg a = sig nx sg b → a = b := by
    intro a b e
    rcases Nat.lt_or_ge a sg.length with g | g <;> rcases Nat.lt_or_ge b sg.length with g' | g'
    · by_cases h : a = b
      · exact h
      · exact absurd e (dist_spec h3 (cover_spec hcov a g) (cover_spec hcov b g') h)
    · obtain ⟨j, j1, j2⟩ := sig_lt (nx := nx) g
      have := hlt' _ (List.mem_of_getElem? j1)
      rw [sig_ge g'] at e; omega
    · obtain ⟨j, j1, j2⟩ := sig_lt (nx := nx) g'
      have := hlt' _ (List.mem_of_getElem? j1)
      rw [sig_ge g] at e; omega
    · rw [sig_ge g, sig_ge g'] at e; omega
  have lent : ∀ i so, hget i roc = some so → so.Live → ∃ b o, β (sig nx sg i) = some b ∧ w.heap[b]? = some o ∧ ¬ foot b ∧ ORel (β.via nx sg) so o := by
    intro i so hi hl
    obtain ⟨s, cs, e1, e2, e3⟩ := orM_spec h2' hes hi hl
    have hsl := eqO_live e2 e3 hl
    rcases e1 with e1 | e1
    · obtain ⟨b, o, g1, g2, g3, g4, g5⟩ := hs.own _ _ e1 hsl
      refine ⟨b, o, g1, g3, ?_, eqO_rel e2 e3 g4⟩
      rintro ⟨j, so', s', j0, j1, j2, j3⟩
      by_cases hij : sig nx sg i = sig nx sg j
      · have := hinj i j hij
        subst this
        -- one key on both sides: the list's keys are told apart by their place
        have : ∀ (a b : List Nat), dist nx sg (a ++ b) = true → ∀ x, x ∈ a → x ∈ b → False := by
          intro a b
          induction a with
          | nil => intro _ x hx; cases hx
          | cons y a ih =>
            intro hd x hx hxb
            simp only [List.cons_append, dist, Bool.and_eq_true, Bool.not_eq_true'] at hd
            cases hx with
            | head =>
              have : hasN (sig nx sg y) ((a ++ b).map (sig nx sg)) = true := hasN_iff.2 (List.mem_map_of_mem (List.mem_append_right _ hxb))
              rw [this] at hd; cases hd.1
            | tail _ hx => exact ih hd.2 x hx hxb
        exact this _ _ h3 i (hkeys_mem j0) (hkeys_mem hi)
      · exact hs.apart _ _ _ _ e1 j1 hsl j2 hij (g1.trans j3.symm)
    · obtain ⟨b, o, g1, g2, g3⟩ := hs.read _ _ e1 hsl
      refine ⟨b, o, g1, hs.old b o g2, ?_, eqO_rel e2 e3 g3⟩
      intro hf
      rw [footD b hf] at g2; cases g2
  have notM : ∀ b, B.D b = none → ¬ M b := fun b e hm => by
    have := hM b hm
    cases hk : K b with
    | none => exact this hk
    | some o => rw [hK b o hk] at e; cases e
  have KD : ∀ b o, K b = some o → D b = some o := fun b o e => by
    have h1 := hK b o e
    have hf : ¬ foot b := fun hf => by rw [footD b hf] at h1; cases h1
    rw [(hD b).2 hf]; exact hs.old b o h1
  refine ⟨⟨D, w, Env.nil, Kind.norm⟩, fun b o e => (Array.getElem?_eq_some_iff.1 (hDs b o e).2).1, KD, ?_, ?_⟩
  · refine ⟨⟨?_, ?_, ?_, fun b o e => (hDs b o e).2, rfl, rfl, rfl, Nat.le_refl _, Env.nil_le _⟩, ?_⟩
    · intro i s hi hl
      obtain ⟨s0, cs, e1, e2, e3⟩ := hpM_spec h2 hds hi hl
      have hsl := eqO_live e2 e3 hl
      obtain ⟨b, o, g1, g2, g3, g4, g5⟩ := hs.own _ _ e1 hsl
      exact ⟨b, o, g1, (hD b).1 ⟨i, s, s0, hi, e1, hsl, g1⟩, g3, eqO_rel e2 e3 g4, g5⟩
    · intro i j s t hi hj ls lt hne
      obtain ⟨s0, cs, e1, e2, e3⟩ := hpM_spec h2 hds hi ls
      obtain ⟨s1, cs', e1', e2', e3'⟩ := hpM_spec h2 hds hj lt
      exact hs.apart _ _ _ _ e1 e1' (eqO_live e2 e3 ls) (eqO_live e2' e3' lt) (fun e => hne (hinj _ _ e))
    · intro i s hi hl
      obtain ⟨b, o, g1, g2, g3, g4⟩ := lent i s hi hl
      exact ⟨b, o, g1, by show D b = _; rw [(hD b).2 g3]; exact g2, g4⟩
    · intro i hi
      show β (sig nx sg i) = none
      rw [sig_ge hi]; exact hs.fresh _ (by omega)
  · intro β2 w' hz nz B1' K' hle hF hs2 hnz
    have Dkeep : ∀ b o, D b = some o → ¬ M b → B1'.D b = some o := fun b o h hm => hF.keep b o h hm
    have BD : ∀ b o, B.D b = some o → D b = some o := fun b o hb => by
      rw [(hD b).2 (fun hf => by rw [footD b hf] at hb; cases hb)]; exact hs.old b o hb
    have hex : ∀ b, ∃ d : Option Obj, (M b → d = K' b) ∧ (¬ M b → ∀ o, B.D b = some o → d = some o) ∧ (¬ M b → B.D b = none → d = K' b) := fun b => by
      by_cases hm : M b
      · exact ⟨K' b, fun _ => rfl, fun h => absurd hm h, fun h => absurd hm h⟩
      · cases hb : B.D b with
        | none => exact ⟨K' b, fun _ => rfl, fun _ _ h => (by cases h), fun _ _ => rfl⟩
        | some o => exact ⟨some o, fun h => absurd h hm, fun _ o' h => h, fun _ h => (by cases h)⟩
    obtain ⟨D2, hD2⟩ : ∃ D2 : Nat → Option Obj, ∀ b, (M b → D2 b = K' b) ∧ (¬ M b → ∀ o, B.D b = some o → D2 b = some o) ∧ (¬ M b → B.D b = none → D2 b = K' b) := ⟨fun b => Classical.choose (hex b), fun b => Classical.choose_spec (hex b)⟩
    have D2K : ∀ b o, K' b = some o → D2 b = some o := fun b o h => by
      by_cases hm : M b
      · rw [(hD2 b).1 hm]; exact h
      · cases hb : B.D b with
        | none => rw [(hD2 b).2.2 hm hb]; exact h
        | some o' =>
          have h1 := Dkeep b o' (BD b o' hb) hm
          rw [hF.le b o h] at h1
          rw [(hD2 b).2.1 hm o' hb, h1]
    have D2le : ∀ b o, D2 b = some o → B1'.D b = some o := fun b o h => by
      by_cases hm : M b
      · rw [(hD2 b).1 hm] at h; exact hF.le b o h
      · cases hb : B.D b with
        | none => rw [(hD2 b).2.2 hm hb] at h; exact hF.le b o h
        | some o' =>
          rw [(hD2 b).2.1 hm o' hb] at h
          injection h with h; subst h
          exact Dkeep b _ (BD b _ hb) hm
    have FB : Fz B K M ⟨D2, B1'.w, B.pin, B.kd⟩ K' := by
      refine ⟨fun b o h => hF.ok b o (D2le b o h), rfl, Env.le_refl _, hF.os.trans hs.os, hF.tape.trans hs.tape, hF.output.trans hs.output, Nat.le_trans hs.size hF.size, fun b o h hm => (hD2 b).2.1 hm o h, D2K, hF.old, fun b o h => ?_⟩
      rcases hF.new b o h with h1 | h1
      · exact .inl h1
      · right
        cases hb : B.D b with
        | none => rfl
        | some o' =>
          have h1 : D b = none := h1
          rw [BD b o' hb] at h1; cases h1
    have hE : ∀ j, ∃ x : Option Nat × Nat, (∀ i, sig nx sg i = j → x = (β2 i, β2.room i)) ∧ ((∀ i, sig nx sg i ≠ j) → x = (β j, β.room j)) := by
      intro j
      by_cases h : ∃ i, sig nx sg i = j
      · obtain ⟨i, rfl⟩ := h
        exact ⟨(β2 i, β2.room i), fun i' e => by rw [hinj _ _ e], fun g => absurd rfl (g i)⟩
      · exact ⟨(β j, β.room j), fun i e => absurd ⟨i, e⟩ h, fun _ => rfl⟩
    obtain ⟨x, hx⟩ : ∃ x : Nat → Option Nat × Nat, ∀ j, (∀ i, sig nx sg i = j → x j = (β2 i, β2.room i)) ∧ ((∀ i, sig nx sg i ≠ j) → x j = (β j, β.room j)) := ⟨fun j => Classical.choose (hE j), fun j => Classical.choose_spec (hE j)⟩
    obtain ⟨β'', hβ⟩ : ∃ β'' : Env, β'' = ⟨fun j => (x j).1, fun j => (x j).2⟩ := ⟨_, rfl⟩
    have hat : ∀ i, β'' (sig nx sg i) = β2 i := fun i => by rw [hβ]; show (x _).1 = _; rw [(hx _).1 i rfl]
    have hroom : ∀ i, β''.room (sig nx sg i) = β2.room i := fun i => by rw [hβ]; show (x _).2 = _; rw [(hx _).1 i rfl]
    have hvia : β''.via nx sg = β2 := by
      have e1 : (β''.via nx sg).f = β2.f := funext hat
      have e2 : (β''.via nx sg).room = β2.room := funext hroom
      cases β2; cases hh : β''.via nx sg
      rw [hh] at e1 e2
      simp only at e1 e2
      rw [e1, e2]
    have hle' : β.le β'' := by
      have key : ∀ j b, β j = some b → β'' j = some b ∧ β''.room j = β.room j := by
        intro j b hj
        by_cases h : ∃ i, sig nx sg i = j
        · obtain ⟨i, rfl⟩ := h
          have hv : (β.via nx sg) i = some b := hj
          exact ⟨(hat i).trans (hle i b hv), (hroom i).trans (hle.r i b hv)⟩
        · have := (hx j).2 (fun i e => h ⟨i, e⟩)
          rw [hβ]
          refine ⟨?_, ?_⟩
          · show (x j).1 = _; rw [this]; exact hj
          · show (x j).2 = _; rw [this]
      exact ⟨fun j b h => (key j b h).1, fun j b h => (key j b h).2⟩
    refine ⟨β'', ⟨D2, B1'.w, B.pin, B.kd⟩, ?_⟩
    have hrel : ∀ s v, Rel β2 s v → Rel β'' (ren nx sg s) v := fun s v h => (ren_rel s v).2 (by rw [hvia]; exact h)
    have horel : ∀ s o, ORel β2 s o → ORel β'' (renO nx sg s id) o := fun s o h => renO_rel (by rw [hvia]; exact h)
    -- the blocks of the caller's that were not handed in
    have kept : ∀ j s, hget j (hdrop' ((hkeys hpc).map (sig nx sg)) hp) = some s → s.Live → ∃ b o, β j = some b ∧ D2 b = none ∧ B1'.D b = some o ∧ w'.heap[b]? = some o ∧ ORel β s o ∧ Fit (β.room j) o ∧ hget j hp = some s := by
      intro j s hj hl
      rw [hdrop_get] at hj
      split at hj
      · cases hj
      rename_i hnk
      obtain ⟨b, o, g1, g2, g3, g4, g5⟩ := hs.own _ _ hj hl
      have hnf : ¬ foot b := by
        rintro ⟨i, so, s', i0, i1, i2, i3⟩
        refine hs.apart _ _ _ _ hj i1 hl i2 ?_ (g1.trans i3.symm)
        intro e; exact hnk (e ▸ List.mem_map_of_mem (hkeys_mem i0))
      have hDb : D b = some o := by rw [(hD b).2 hnf]; exact g3
      have hm := notM b g2
      have hD1 := Dkeep b o hDb hm
      refine ⟨b, o, g1, ?_, hD1, hs2.old b o hD1, g4, g5, hj⟩
      rw [(hD2 b).2.2 hm g2]
      cases hk : K' b with
      | none => rfl
      | some o' =>
        rcases hF.new b o' hk with h1 | h1
        · cases hk0 : K b with
          | none => exact absurd hk0 h1
          | some o2 => rw [hK b o2 hk0] at g2; cases g2
        · have h1 : D b = none := h1
          rw [hDb] at h1; cases h1
    -- what the callee hands back
    have back : ∀ j s, s.Live → (∃ i s0, j = sig nx sg i ∧ i ∈ hkeys hz ∧ (i, s0) ∈ hz ∧ s = renO nx sg s0 id ∧ ((∀ a b, a ∈ hkeys hz → b ∈ hkeys hz → sig nx sg a = sig nx sg b → a = b) → hget i hz = some s0)) →
        ∃ i s0 b o, j = sig nx sg i ∧ hget i hz = some s0 ∧ s0.Live ∧ β2 i = some b ∧ B1'.D b = none ∧ D2 b = none ∧ w'.heap[b]? = some o ∧ ORel β2 s0 o ∧ Fit (β2.room i) o ∧ s = renO nx sg s0 id := by
      rintro j s hl ⟨i, s0, e1, _, _, e4, e5⟩
      have e5 := e5 (fun a b _ _ e => hinj a b e)
      have hl0 : s0.Live := renO_live (e4 ▸ hl)
      obtain ⟨b, o, g1, g2, g3, g4, g5⟩ := hs2.own _ _ e5 hl0
      refine ⟨i, s0, b, o, e1, e5, hl0, g1, g2, ?_, g3, g4, g5, e4⟩
      cases hb : D2 b with
      | none => rfl
      | some o' => rw [D2le b o' hb] at g2; cases g2
    refine ⟨hle', hrel, FB, rfl, ⟨?_, ?_, ?_, ?_, ?_, ?_, ?_, ?_, ?_⟩, ?_⟩
    · intro j s hj hl
      rcases renH_get hj with h | h
      · obtain ⟨i, s0, b, o, e1, e2, _, g1, g2, g3, g4, g5, g6, rfl⟩ := back j s hl h
        exact ⟨b, o, by rw [e1]; exact (hat i).trans g1, g3, g4, horel _ _ g5, by rw [e1, hroom]; exact g6⟩
      · obtain ⟨b, o, g1, g2, _, g4, g5, g6, _⟩ := kept j s h hl
        exact ⟨b, o, hle' _ _ g1, g2, g4, ORel.mono hle' _ _ g5, by rw [hle'.r _ _ g1]; exact g6⟩
    · intro j k s t hj hk ls lt hne
      have mix : ∀ j k s t, s.Live → t.Live → (∃ i s0, j = sig nx sg i ∧ i ∈ hkeys hz ∧ (i, s0) ∈ hz ∧ s = renO nx sg s0 id ∧ ((∀ a b, a ∈ hkeys hz → b ∈ hkeys hz → sig nx sg a = sig nx sg b → a = b) → hget i hz = some s0)) →
          hget k (hdrop' ((hkeys hpc).map (sig nx sg)) hp) = some t → β'' j ≠ β'' k := by
        intro j k s t ls lt h h'
        obtain ⟨i, s0, b, o, e1, e2, _, g1, g2, _⟩ := back j s ls h
        obtain ⟨b', o', g1', _, g3', _⟩ := kept k t h' lt
        rw [e1, hat, g1, hle' _ _ g1']
        intro e; injection e with e; subst e; rw [g2] at g3'; cases g3'
      rcases renH_get hj with h | h <;> rcases renH_get hk with h' | h'
      · obtain ⟨i, s0, b, o, e1, e2, l1, g1, g2, g3, g4, g5, g6, rfl⟩ := back j s ls h
        obtain ⟨i', s0', b', o', e1', e2', l2, g1', g2', _⟩ := back k t lt h'
        rw [e1, e1', hat, hat]
        exact hs2.apart _ _ _ _ e2 e2' l1 l2 (fun e => hne (by rw [e1, e1', e]))
      · exact mix j k s t ls lt h h'
      · exact Ne.symm (mix k j t s lt ls h' h)
      · obtain ⟨b, o, g1, _, _, _, _, _, g7⟩ := kept j s h ls
        obtain ⟨b', o', g1', _, _, _, _, _, g7'⟩ := kept k t h' lt
        rw [hle' _ _ g1, hle' _ _ g1', ← g1, ← g1']
        exact hs.apart _ _ _ _ g7 g7' ls lt hne
    · intro i s hi hl
      rcases hro with rfl | hro
      · exact (none_ne hi).elim
      obtain ⟨b, o, g1, g2, g3⟩ := hs.read i s hi hl
      exact ⟨b, o, hle' _ _ g1, (hD2 b).2.1 (hro b) o g2, ORel.mono hle' _ _ g3⟩
    · intro b o hb
      exact hs2.old b o (D2le b o hb)
    · exact hs2.os
    · exact hs2.tape
    · exact hs2.output
    · exact hs2.size
    · exact Env.le_trans hs.pin hle'
    · intro i hi
      have : sig nx sg (sg.length + (i - nx)) = i := by rw [sig_ge (by omega)]; omega
      rw [← this, hat]
      exact hs2.fresh _ (by omega)

section
variable {ι : Type}
def HEndX (β : Env) (B : Base) (K : Kn) (M : Nat → Prop) (ro : Hp) (ψ : ι → Kn → Prop) (out : ι → Out) (e : Ending) (w' : World) : Prop :=
  ∃ z β' u B' K', ψ z K' ∧ β.le β' ∧ e = .returned u ∧ Rel β' (out z).r u ∧ Fz B K M B' K' ∧ Sat β' (out z).hp ro B' (out z).nx w'
/-- A contract that may leave blocks behind that are written no more (and may change those that M names). -/
def HCX (P : Program) (K : Kn) (M : Nat → Prop) (f : FuncId) (xs : List SV) (hp ro : Hp) (nx : Nat) (ψ : ι → Kn → Prop) (out : ι → Out) : Prop :=
  ∀ (B : Base) (β : Env) (w : World) (vs : List Value), B.ok → (∀ b o, K b = some o → B.D b = some o) → RelL β xs vs → Sat β hp ro B nx w → Calls P f vs.toArray w (HEndX β B K M ro ψ out)
theorem hcx_of_run {P : Program} {K : Kn} {M : Nat → Prop} {f : FuncId} {fn : Func} {c : Code} {xs : List SV} {hp ro : Hp} {nx : Nat} {ψ : ι → Kn → Prop} {out : ι → Out} (hfn : P.funcs[f]? = some fn) (hb : fn.body = some c)
    (h : ∀ B : Base, B.ok → (∀ b o, K b = some o → B.D b = some o) → PinTo B nx → Run P ro B f (HEndX B.pin B K M ro ψ out) ⟨⟨fid f, xs.length + (fn.ntmps - xs.length), enumFrom 0 xs, [.code c]⟩, [], hp, nx⟩) : HCX P K M f xs hp ro nx ψ out := by
  intro B β w vs hB hK hl hs
  have hs1 : Sat β hp ro ⟨B.D, B.w, β, Kind.norm⟩ nx w := ⟨⟨hs.own, hs.apart, hs.read, hs.old, hs.os, hs.tape, hs.output, hs.size, Env.le_refl _⟩, hs.fresh⟩
  refine (calls_of_run hfn hb hl hs1 (h ⟨B.D, B.w, β, Kind.norm⟩ hB hK ⟨hs.fresh, rfl⟩) rfl).mono ?_
  rintro e w' ⟨z, β', u, B', K', h1, h2, h3, h4, h5, h6⟩
  refine ⟨z, β', u, ⟨B'.D, B'.w, B.pin, B.kd⟩, K', h1, h2, h3, h4, ⟨h5.ok, rfl, Env.le_refl _, h5.os, h5.tape, h5.output, h5.size, h5.keep, h5.le, h5.old, h5.new⟩, ⟨h6.own, h6.apart, h6.read, h6.old, h6.os, h6.tape, h6.output, h6.size, Env.le_trans hs.pin h2⟩, h6.fresh⟩
theorem hcx_of_hc {P : Program} {K : Kn} {M : Nat → Prop} {f : FuncId} {xs : List SV} {hp ro : Hp} {nx : Nat} {ψ : ι → Prop} {out : ι → Out} (h : HC P f xs hp ro nx ψ out) : HCX P K M f xs hp ro nx (fun z K' => ψ z ∧ K' = K) out := by
  intro B β w vs hB hK hl hs
  refine (h B β w vs hB hl hs).mono ?_
  rintro e w' ⟨z, β', u, h1, h2, h3, h4, h5⟩
  exact ⟨z, β', u, B, K, ⟨h1, rfl⟩, h2, h3, h4, .refl hB hK, h5⟩
/-- The same with another name for its answers. -/
theorem HCX.to {κ : Type} {P : Program} {K : Kn} {M : Nat → Prop} {f : FuncId} {xs : List SV} {hp ro : Hp} {nx : Nat} {ψ : ι → Kn → Prop} {out : ι → Out} {ψ' : κ → Kn → Prop} {out' : κ → Out} (h : HCX P K M f xs hp ro nx ψ out) (g : ∀ z K', ψ z K' → ∃ y, ψ' y K' ∧ out' y = out z) : HCX P K M f xs hp ro nx ψ' out' := by
  intro B β w vs h1 h2 h3 h4
  refine (h B β w vs h1 h2 h3 h4).mono ?_
  rintro e w' ⟨z, β', u, B', K', hψ, h⟩
  obtain ⟨y, h6, h7⟩ := g z K' hψ
  exact ⟨y, β', u, B', K', h6, by rw [h7]; exact h⟩
section
variable {P : Program} {ro : Hp} {B B' : Base} {f : FuncId} {K K' : Kn} {M : Nat → Prop} {ψ : ι → Kn → Prop} {out : ι → Out}
theorem run_retF (hF : Fz B K M B' K') {np : Nat} (hpin : PinTo B' np) (z : ι) (hψ : ψ z K') (sg : List Nat) {n : Nat} {sl : Slots} {td : List SI} {hp : Hp} {nx : Nat} {cs ds : List Prop} {v : SV} (hl : sg.length = (out z).nx) (hv : resV P f sl hp ro = some (cs, v)) (hc : conj cs)
    (hk : retC nx sg np ro hp (out z) v = some ds) (hds : conj ds) : Run P ro B' f (HEndX B.pin B K M ro ψ out) ⟨⟨fid f, n, sl, .code .ret :: td⟩, [], hp, nx⟩ := by
  unfold retC at hk
  cases hb : (dist nx sg (hkeys (out z).hp) && idTo nx sg np) with
  | false => rw [hb] at hk; cases hk
  | true =>
  rw [hb] at hk; simp only [cond_true] at hk
  simp only [Bool.and_eq_true] at hb
  split at hk <;> first | exact (none_ne hk).elim | skip
  rename_i a b c e1 e2 e3
  injection hk with hk; subst hk
  obtain ⟨h1, h2⟩ := conj_append hds
  obtain ⟨h2, h3⟩ := conj_append h2
  refine run_retK hv hc (fun β w u hs hu => ?_) hpin.k
  obtain ⟨z', β', u', g1, g2, g3, g4, g5⟩ := hend_of (ψ := fun y => y = z) hpin z rfl sg hl e1 e2 hb.1 e3 hb.2 h1 h2 h3 β w u hs hu
  subst g1
  exact ⟨z', β', u', B', K', hψ, Env.le_trans hF.pin g2, g3, g4, hF, g5⟩
theorem run_endF (hF : Fz B K M B' K') {np : Nat} (hpin : PinTo B' np) (z : ι) (hψ : ψ z K') (sg : List Nat) {n : Nat} {sl : Slots} {hp : Hp} {nx : Nat} {cs ds : List Prop} {v : SV} (hl : sg.length = (out z).nx) (hv : resV P f sl hp ro = some (cs, v)) (hc : conj cs)
    (hk : retC nx sg np ro hp (out z) v = some ds) (hds : conj ds) : Run P ro B' f (HEndX B.pin B K M ro ψ out) ⟨⟨fid f, n, sl, []⟩, [], hp, nx⟩ := by
  unfold retC at hk
  cases hb : (dist nx sg (hkeys (out z).hp) && idTo nx sg np) with
  | false => rw [hb] at hk; cases hk
  | true =>
  rw [hb] at hk; simp only [cond_true] at hk
  simp only [Bool.and_eq_true] at hb
  split at hk <;> first | exact (none_ne hk).elim | skip
  rename_i a b c e1 e2 e3
  injection hk with hk; subst hk
  obtain ⟨h1, h2⟩ := conj_append hds
  obtain ⟨h2, h3⟩ := conj_append h2
  refine run_endK hv hc (fun β w u hs hu => ?_) hpin.k
  obtain ⟨z', β', u', g1, g2, g3, g4, g5⟩ := hend_of (ψ := fun y => y = z) hpin z rfl sg hl e1 e2 hb.1 e3 hb.2 h1 h2 h3 β w u hs hu
  subst g1
  exact ⟨z', β', u', B', K', hψ, Env.le_trans hF.pin g2, g3, g4, hF, g5⟩
theorem run_retMF (hF : Fz B K M B' K') {np : Nat} {B1 : Base} (hpin1 : PinTo B1 np) (hM1 : More B1 B') (hF1 : Fz B K M B1 K') (z : ι) (hψ : ψ z K') (js sg : List Nat) {n : Nat} {dfs : List DF} {sl : Slots} {td : List SI} {hp hp' : Hp} {nx : Nat} {cs ds : List Prop} {v : SV} (htd : td = [] ∨ ∃ k, td = .code .ret :: k)
    (hm : Marks B' hp js dfs) (hd : dropF js hp some = some hp') (hl : sg.length = (out z).nx) (hv : resV P f sl hp' ro = some (cs, v)) (hc : conj cs)
    (hk : retC nx sg np ro hp' (out z) v = some ds) (hds : conj ds) : Run P ro B' f (HEndX B.pin B K M ro ψ out) ⟨⟨⟨f, none, dfs⟩, n, sl, td⟩, [], hp, nx⟩ := by
  unfold retC at hk
  cases hb : (dist nx sg (hkeys (out z).hp) && idTo nx sg np) with
  | false => rw [hb] at hk; cases hk
  | true =>
  rw [hb] at hk; simp only [cond_true] at hk
  simp only [Bool.and_eq_true] at hb
  split at hk <;> first | exact (none_ne hk).elim | skip
  rename_i a b c e1 e2 e3
  injection hk with hk; subst hk
  obtain ⟨h1, h2⟩ := conj_append hds
  obtain ⟨h2, h3⟩ := conj_append h2
  refine run_retM js htd hm hd hv hc (fun β w u hs hu => ?_) (hM1.kd.trans hpin1.k)
  obtain ⟨z', β', u', g1, g2, g3, g4, g5⟩ := hend_of (ψ := fun y => y = z) hpin1 z rfl sg hl e1 e2 hb.1 e3 hb.2 h1 h2 h3 β w u (hs.less hM1) hu
  subst g1
  exact ⟨z', β', u', B1, K', hψ, Env.le_trans hF1.pin g2, g3, g4, hF1, g5⟩
end
section
variable {P : Program} {ro : Hp} {B : Base} {f : FuncId} {R : Ending → World → Prop}
/-- A call by a contract that leaves blocks behind. -/
theorem run_callX {K : Kn} {M : Nat → Prop} {g : Nat} {xs : List SV} {hpc roc : Hp} {nxc : Nat} {ψ : ι → Kn → Prop} {out : ι → Out} (hHC : HCX P K M g xs hpc roc nxc ψ out) (hP : Named P) (hB : B.ok) (hK : ∀ b o, K b = some o → B.D b = some o) (hM : ∀ b, M b → K b ≠ none) (hro : ro = [] ∨ ∀ b, ¬ M b) (sg : List Nat)
    {fn : FId} {n : Nat} {sl : Slots} {ops : Array Oper} {i : Nat} {o : Oper} {cur : List Oper} {tl : Option (List Nat)} {k : List SI} {rest : List SFr} {hp : Hp} {nx : Nat} {cs0 cs1 : List Prop} {gf : Func} {gb : Code} {as : List SV}
    (hgd : guardIn ops sl o = some .run) (hcal : callee P sl o.op = some (cs0, g, gf, gb, as)) (hl : sg.length = nxc) (hk : callC nx sg nxc xs as hpc roc hp ro = some cs1) (hc0 : conj cs0) (hc1 : conj cs1)
    (h : ∀ z B' K', ψ z K' → Fz B K M B' K' → B'.pin = B.pin → nxc ≤ (out z).nx ∧ ∃ sl' hp' nx', put o.dst (ren nx sg (out z).r) n sl = some sl' ∧ callH nx sg ((hkeys hpc).map (sig nx sg)) (out z).hp hp = some hp' ∧ natF (nx + ((out z).nx - nxc)) some = some nx' ∧
      Run P ro B' f R ⟨⟨fn, n, sl', .reg ops (i + 1) cur tl :: k⟩, rest, hp', nx'⟩) :
    Run P ro B f R ⟨⟨fn, n, sl, .reg ops i (o :: cur) tl :: k⟩, rest, hp, nx⟩ := by
  unfold callC at hk
  cases hb : (cover (hkeys hpc ++ hkeys roc) nxc && allLt nx sg && dist nx sg (hkeys hpc ++ hkeys roc)) with
  | false => rw [hb] at hk; cases hk
  | true =>
  rw [hb] at hk; simp only [cond_true] at hk
  simp only [Bool.and_eq_true] at hb
  split at hk <;> first | exact (none_ne hk).elim | skip
  rename_i a b c hargs e2 e3
  injection hk with hk; subst hk
  obtain ⟨h1, h2⟩ := conj_append hc1
  obtain ⟨h2, h3⟩ := conj_append h2
  subst hl
  intro β w fr frs cs hf hfs hs hcs
  have hrok := hf.ok _ (List.mem_cons_self ..)
  obtain ⟨ho, hok', hit⟩ := reg_ok hrok
  have hlt' : ∀ t v, look t sl = some v → t < fr.tmps.size := by rw [hf.size]; exact hf.lt
  have hw := guard_rel hgd hf.size hf.slot hlt'
  have hrho : Rho β sl (Act.eval ⟨fr.tmps, fr.defers⟩) := ⟨hf.slot, fun _ => rfl, fun _ => rfl⟩
  obtain ⟨hfn, hbd, vs, hvl, hrun⟩ := callee_run (w := w) hP hrho hcal (all_conj hc0)
  obtain ⟨B1, hB1, hK1, hs1, hback⟩ := hs.calledX hB hK hM hro hb.1.2 hb.1.1 e2 e3 hb.2 (all_conj h2) (all_conj h3)
  rw [renFL_eq] at hargs
  have hxs : RelL (β.via nx sg) xs vs := (renL_rel _ _).1 (eqL_less _ _ _ hargs (all_conj h1) β vs hvl)
  have hcall := hHC B1 (β.via nx sg) w vs hB1 hK1 hxs hs1
  have hst := op_enter (P := P) (b := fr) (a := ⟨fr.tmps, fr.defers⟩) (k := k.map SI.item) (cs := frs ++ cs) (w := w) (ops := ops) (i := i) (rest := List.range' (i + 1) cur.length ++ tl.getD []) ho hw hrun
  obtain ⟨e, w', fr', ⟨z, β2, u, B1', K', hz, hle2, rfl, hu, hF1, hs2⟩, hco, _, hlv⟩ := hcall (fr.atR ⟨fr.tmps, fr.defers⟩ (.inRegion ops (i :: (List.range' (i + 1) cur.length ++ tl.getD [])) :: k.map SI.item) :: (frs ++ cs))
  -- the number of names used is told by any base: take the one that comes
  have hnz : sg.length ≤ (out z).nx := by
    obtain ⟨β'', B2, _, _, gF, gp, _⟩ : ∃ (β'' : Env) (B2 : Base), True ∧ True ∧ Fz B K M B2 K' ∧ B2.pin = B.pin ∧ True := by
      obtain ⟨β'', B2, g1, g2, g3, g4, g5⟩ := hback β2 w' [] (max sg.length (out z).nx) B1' K' hle2 hF1 ⟨⟨fun _ _ h => (none_ne h).elim, fun _ _ _ _ h => (none_ne h).elim, hs2.read, hs2.old, hs2.os, hs2.tape, hs2.output, hs2.size, hs2.pin⟩, fun i hi => hs2.fresh i (by omega)⟩ (Nat.le_max_left ..)
      exact ⟨β'', B2, trivial, trivial, g3, g4, trivial⟩
    exact (h z B2 K' hz gF gp).1
  obtain ⟨β'', B2, g1, g2, g3, g4, g5⟩ := hback β2 w' _ _ B1' K' hle2 hF1 hs2 hnz
  obtain ⟨_, sl', hp', nx', q1, q2, q3, hr⟩ := h z B2 K' hz g3 g4
  have q2 := callH_eq q2
  rw [natF_eq] at q3
  injection q3 with q3
  subst q2 q3
  obtain ⟨p1, p2, p3⟩ := put_spec (β := β'') q1 hf.size (fun t v e => Rel.mono g1 _ _ (hf.slot t v e)) hf.lt (g2 _ _ hu)
  obtain ⟨e', w2, fr2, hR, hc, r⟩ := hr β'' w' (fr.atR ⟨(Act.put ⟨fr.tmps, fr.defers⟩ o.dst u).tmps, fr.defers⟩ ((SI.reg ops (i + 1) cur tl :: k).map SI.item)) frs cs (FrRel.of hf.fn hf.rnd hf.kind (hf.defers.mono g1) p1 p3 p2 (by
    intro x hx
    cases hx with
    | head => exact hok'
    | tail _ hm => exact hf.ok x (List.mem_cons_of_mem _ hm))) (hfs.mono g1) g5 (by rw [g3.kd]; exact hcs)
  rw [g3.kd] at hc r
  refine ⟨e', w2, fr2, hR, .of_steps ?_ hc, r⟩
  have := hf.at
  rw [this, ← put_eq]
  simp only [List.map_cons, hit]
  refine (Steps.one hst).trans (Steps.trans hco (.one ?_))
  have hfin : (fr.atR ⟨fr.tmps, fr.defers⟩ (.inRegion ops (i :: (List.range' (i + 1) cur.length ++ tl.getD [])) :: k.map SI.item)).finish u = fr.atR (Act.put ⟨fr.tmps, fr.defers⟩ o.dst u) (.inRegion ops (List.range' (i + 1) cur.length ++ tl.getD []) :: k.map SI.item) := by rw [Frame.finish_atR, ho]; rfl
  have hsl := step_leave_returned (c := fr.atR ⟨fr.tmps, fr.defers⟩ (.inRegion ops (i :: (List.range' (i + 1) cur.length ++ tl.getD [])) :: k.map SI.item)) (cs := frs ++ cs) hlv
  rw [hfin] at hsl
  exact hsl
end
end
end Sx
end
section
namespace Sx
open Go
def keyIs (q : IntKind) (a : Int) (x : MapEntry) : Bool := match x.key with
  | .int q' b => keq q' q && decide (b = a)
  | _ => false
def vIntOf (v : Value) : Int := match v with
  | .int _ c => c
  | _ => 0
def hasE (q : IntKind) (es : Array MapEntry) (a : Int) : Bool := es.toList.any (keyIs q a)
def lkE (q : IntKind) (es : Array MapEntry) (a : Int) : Int := match es.toList.find? (keyIs q a) with
  | some x => vIntOf x.val
  | none => 0
def entA (es : Array MapEntry) (clock : Nat) (q r : IntKind) (a : Int) : Array MapEntry := bif hasE q es a then es else es.push ⟨.int q a, .int r 0, clock⟩
def entC (es : Array MapEntry) (clock : Nat) (q : IntKind) (a : Int) : Nat := bif hasE q es a then clock else clock + 1
def entS (es : Array MapEntry) (clock : Nat) (q : IntKind) (a : Int) : Nat := match es.toList.find? (keyIs q a) with
  | some x => x.born
  | none => clock
def stoI (es : Array MapEntry) (n : Int) : Option Nat := es.findIdx? fun e => (e.born : Int) == n
def stoA (es : Array MapEntry) (n : Int) (v : Value) : Array MapEntry := match stoI es n with
  | some i => es.modify i fun e => { e with val := v }
  | none => es
/-- Integers at integers. -/
def WFm (q r : IntKind) (es : Array MapEntry) (clock : Nat) : Prop := MapKept.Stamped es clock ∧ ∀ x ∈ es.toList, ∃ a c, x.key = .int q a ∧ x.val = .int r c
theorem keyIs_iff {q : IntKind} {a : Int} {x : MapEntry} : keyIs q a x = true ↔ x.key = .int q a := by
  unfold keyIs
  constructor
  · intro h
    split at h
    · rename_i q' b e
      rw [Bool.and_eq_true, decide_eq_true_iff] at h
      rw [e, keq_spec h.1, h.2]
    · cases h
  · intro h
    rw [h]
    simp only [decide_true, Bool.and_true]
    cases q <;> rfl
theorem hasE_iff {q : IntKind} {es : Array MapEntry} {a : Int} : hasE q es a = true ↔ ∃ x ∈ es.toList, x.key = .int q a := by
  unfold hasE
  rw [List.any_eq_true]
  exact ⟨fun ⟨x, h1, h2⟩ => ⟨x, h1, keyIs_iff.1 h2⟩, fun ⟨x, h1, h2⟩ => ⟨x, h1, keyIs_iff.2 h2⟩⟩
theorem find_key {q : IntKind} {es : Array MapEntry} {clock : Nat} (h : MapKept.Stamped es clock) {a : Int} {x : MapEntry} (hx : x ∈ es.toList) (hk : x.key = .int q a) : es.toList.find? (keyIs q a) = some x := by
  cases hf : es.toList.find? (keyIs q a) with
  | none =>
    have := List.find?_eq_none.1 hf x hx
    exact absurd (keyIs_iff.2 hk) this
  | some y =>
    have h1 := keyIs_iff.1 (List.find?_some hf)
    have h2 := List.mem_of_find?_eq_some hf
    obtain ⟨_, _, hp⟩ := (MapKept.stamped_iff _ _).1 h
    obtain ⟨i, hi, rfl⟩ := List.mem_iff_getElem.1 hx
    obtain ⟨j, hj, rfl⟩ := List.mem_iff_getElem.1 h2
    rcases Nat.lt_trichotomy i j with g | g | g
    · exact absurd (hk.trans h1.symm) (List.pairwise_iff_getElem.1 hp i j hi hj g)
    · subst g; rfl
    · exact absurd (h1.trans hk.symm) (List.pairwise_iff_getElem.1 hp j i hj hi g)
theorem lkE_of {q r : IntKind} {es : Array MapEntry} {clock : Nat} (h : MapKept.Stamped es clock) {a c : Int} {x : MapEntry} (hx : x ∈ es.toList) (hk : x.key = .int q a) (hv : x.val = .int r c) : lkE q es a = c := by
  unfold lkE
  rw [find_key h hx hk]
  simp [hv, vIntOf]
theorem WFm.rel {q r : IntKind} {es : Array MapEntry} {clock : Nat} (h : WFm q r es clock) (β : Env) : MRel β q (hasE q es) (.ints r (lkE q es)) es clock := by
  refine ⟨h.1, fun x hx => ?_, fun a ha => hasE_iff.1 ha⟩
  obtain ⟨a, c, h1, h2⟩ := h.2 x hx
  exact ⟨a, h1, hasE_iff.2 ⟨x, hx, h1⟩, by show x.val = .int r (lkE q es a); rw [lkE_of h.1 hx h1 h2, h2]⟩
theorem MRel.wf {β : Env} {q r : IntKind} {hh : Int → Bool} {v : Int → Int} {es : Array MapEntry} {clock : Nat} (h : MRel β q hh (.ints r v) es clock) : WFm q r es clock ∧ (∀ a, hasE q es a = hh a) ∧ ∀ a, hh a = true → lkE q es a = v a := by
  have hv : ∀ x ∈ es.toList, ∃ a, x.key = .int q a ∧ hh a = true ∧ x.val = .int r (v a) := fun x hx => h.ent x hx
  refine ⟨⟨h.st, fun x hx => ?_⟩, fun a => ?_, fun a ha => ?_⟩
  · obtain ⟨a, h1, _, h3⟩ := hv x hx
    exact ⟨a, _, h1, h3⟩
  · rw [Bool.eq_iff_iff, hasE_iff]
    constructor
    · rintro ⟨x, hx, hk⟩
      obtain ⟨a', h1, h2, _⟩ := hv x hx
      rw [hk] at h1; injection h1 with _ h1; rw [h1]; exact h2
    · exact h.has a
  · obtain ⟨x, hx, hk⟩ := h.has a ha
    obtain ⟨a', h1, _, h3⟩ := hv x hx
    rw [hk] at h1; injection h1 with _ h1; subst h1
    exact lkE_of h.st hx hk h3
theorem hasE_false {q : IntKind} {es : Array MapEntry} {a : Int} (h : hasE q es a = false) : ∀ x ∈ es.toList, x.key ≠ .int q a := fun x hx hk => by
  have := hasE_iff.2 ⟨x, hx, hk⟩
  rw [h] at this; cases this
theorem find_false {q : IntKind} {es : Array MapEntry} {a : Int} (h : hasE q es a = false) : es.toList.find? (keyIs q a) = none := by
  rw [List.find?_eq_none]
  intro x hx hk
  exact hasE_false h x hx (keyIs_iff.1 hk)
theorem WFm.ent {q r : IntKind} {es : Array MapEntry} {clock : Nat} (h : WFm q r es clock) (a : Int) : WFm q r (entA es clock q r a) (entC es clock q a) := by
  unfold entA entC
  cases ha : hasE q es a with
  | true => exact h
  | false =>
    refine ⟨MapKept.stamped_push h.1 (hasE_false ha), fun x hx => ?_⟩
    simp only [cond_false, Array.toList_push, List.mem_append, List.mem_singleton] at hx
    rcases hx with hx | rfl
    · exact h.2 x hx
    · exact ⟨a, 0, rfl, rfl⟩
theorem entA_spec {q r : IntKind} {es : Array MapEntry} {clock : Nat} (h : WFm q r es clock) (a : Int) : (∀ b, hasE q (entA es clock q r a) b = (ieq b a || hasE q es b)) ∧ (∀ b, lkE q (entA es clock q r a) b = lkE q es b) ∧
    ∃ x ∈ (entA es clock q r a).toList, x.key = .int q a ∧ x.born = entS es clock q a ∧ x.val = .int r (lkE q es a) := by
  unfold entA entS
  cases ha : hasE q es a with
  | true =>
    obtain ⟨x, hx, hk⟩ := hasE_iff.1 ha
    refine ⟨fun b => ?_, fun b => rfl, x, hx, hk, ?_, ?_⟩
    · simp only [cond_true]
      by_cases e : b = a
      · subst e; simp [ieq, ha]
      · simp [ieq, e]
    · rw [find_key h.1 hx hk]
    · obtain ⟨a', c, h1, h2⟩ := h.2 x hx
      rw [lkE_of h.1 hx hk h2, h2]
  | false =>
    have hf := find_false ha
    have hl : lkE q es a = 0 := by unfold lkE; rw [hf]
    refine ⟨fun b => ?_, fun b => ?_, ⟨.int q a, .int r 0, clock⟩, by simp, rfl, by rw [hf], by rw [hl]⟩
    · simp only [cond_false, hasE, Array.toList_push, List.any_append, List.any_cons, List.any_nil, Bool.or_false]
      rw [Bool.or_comm]
      congr 1
      rw [Bool.eq_iff_iff, keyIs_iff]
      simp only [ieq, decide_eq_true_eq, Value.int.injEq, true_and]
      exact ⟨fun e => e.symm, fun e => e.symm⟩
    · simp only [cond_false, lkE, Array.toList_push, List.find?_append]
      cases hg : es.toList.find? (keyIs q b) with
      | some y => rfl
      | none =>
        cases hk : keyIs q b ⟨.int q a, .int r 0, clock⟩ with
        | true => simp [hk, vIntOf]
        | false => simp [hk]
theorem nodup_inj {α : Type} {l : List α} (h : l.Nodup) {i j : Nat} {hi : i < l.length} {hj : j < l.length} (e : l[i] = l[j]) : i = j := by
  rw [List.nodup_iff_pairwise_ne] at h
  rcases Nat.lt_trichotomy i j with g | g | g
  · exact absurd e (List.pairwise_iff_getElem.1 h i j hi hj g)
  · exact g
  · exact absurd e.symm (List.pairwise_iff_getElem.1 h j i hj hi g)
theorem stoI_of {es : Array MapEntry} {clock : Nat} (h : MapKept.Stamped es clock) {x : MapEntry} (hx : x ∈ es.toList) : ∃ i, stoI es x.born = some i ∧ es[i]? = some x := by
  obtain ⟨hb, hn, _⟩ := (MapKept.stamped_iff _ _).1 h
  unfold stoI
  cases hf : es.findIdx? (fun e => (e.born : Int) == (x.born : Int)) with
  | none =>
    rw [Array.findIdx?_eq_none_iff] at hf
    have := hf x (Array.mem_toList_iff.1 hx)
    simp at this
  | some i =>
    rw [Array.findIdx?_eq_some_iff_getElem] at hf
    obtain ⟨hi, h1, _⟩ := hf
    refine ⟨i, rfl, ?_⟩
    have h1 : (es[i].born : Int) = x.born := by simpa using h1
    obtain ⟨j, hj, rfl⟩ := List.mem_iff_getElem.1 hx
    have hi' : i < es.toList.length := by simpa using hi
    have e1 : es[i] = es.toList[i] := by simp
    have : i = j := by
      have g1 : (es.toList.map (·.born))[i]'(by simpa using hi') = (es.toList.map (·.born))[j]'(by simpa using hj) := by
        simp only [List.getElem_map]
        rw [← e1]; omega
      exact nodup_inj hn g1
    subst this
    rw [Array.getElem?_eq_getElem hi, e1]
theorem modify_mem {es : Array MapEntry} {i : Nat} {f : MapEntry → MapEntry} {y : MapEntry} : y ∈ (es.modify i f).toList ↔ ∃ j, ∃ hj : j < es.size, y = if j = i then f es[j] else es[j] := by
  rw [List.mem_iff_getElem]
  simp only [Array.length_toList, Array.size_modify, Array.getElem_toList, Array.getElem_modify]
  constructor
  · rintro ⟨j, hj, rfl⟩
    exact ⟨j, hj, by by_cases e : i = j <;> simp [e, eq_comm]⟩
  · rintro ⟨j, hj, rfl⟩
    exact ⟨j, hj, by by_cases e : i = j <;> simp [e, eq_comm]⟩
theorem WFm.sto {q r : IntKind} {es : Array MapEntry} {clock : Nat} (h : WFm q r es clock) (n c : Int) : WFm q r (stoA es n (.int r c)) clock := by
  unfold stoA
  split
  · rename_i i _
    refine ⟨MapKept.stamped_modify h.1 i _ (fun _ _ => rfl) (fun _ _ _ => rfl), fun x hx => ?_⟩
    obtain ⟨j, hj, rfl⟩ := modify_mem.1 hx
    obtain ⟨a, c', h1, h2⟩ := h.2 es[j] (by simp)
    split
    · exact ⟨a, c, h1, rfl⟩
    · exact ⟨a, c', h1, h2⟩
  · exact h
theorem stoA_spec {q r : IntKind} {es : Array MapEntry} {clock : Nat} (h : WFm q r es clock) {x : MapEntry} (hx : x ∈ es.toList) {a : Int} (hk : x.key = .int q a) (c : Int) : (∀ b, hasE q (stoA es x.born (.int r c)) b = hasE q es b) ∧ ∀ b, lkE q (stoA es x.born (.int r c)) b = if b = a then c else lkE q es b := by
  obtain ⟨i, h1, h2⟩ := stoI_of h.1 hx
  have hi : i < es.size := (Array.getElem?_eq_some_iff.1 h2).1
  have hxi : es[i] = x := (Array.getElem?_eq_some_iff.1 h2).2
  have hA : stoA es x.born (.int r c) = es.modify i fun e => { e with val := .int r c } := by unfold stoA; rw [h1]
  have hW := h.sto x.born c
  rw [hA] at hW ⊢
  have hmem : ∀ y, y ∈ es.toList → ∃ z ∈ (es.modify i fun e => { e with val := .int r c }).toList, z.key = y.key ∧ ((y.key = .int q a ∧ z.val = .int r c) ∨ (y.key ≠ .int q a ∧ z.val = y.val)) := by
    intro y hy
    obtain ⟨j, hj, rfl⟩ := List.mem_iff_getElem.1 hy
    have hj' : j < es.size := by simpa using hj
    have ej : es.toList[j] = es[j] := by simp
    refine ⟨if j = i then { es[j] with val := .int r c } else es[j], modify_mem.2 ⟨j, hj', rfl⟩, ?_, ?_⟩
    · rw [ej]; split <;> rfl
    · rw [ej]
      by_cases e : j = i
      · subst e; rw [if_pos rfl, hxi]; exact .inl ⟨hk, rfl⟩
      · rw [if_neg e]
        refine .inr ⟨fun hkj => ?_, rfl⟩
        have g1 := find_key (q := q) h.1 (x := es[j]) (by simp) hkj
        have g2 := find_key (q := q) h.1 hx hk
        rw [g1] at g2; injection g2 with g2
        obtain ⟨_, hn, _⟩ := (MapKept.stamped_iff _ _).1 h.1
        have g3 : (es.toList.map (·.born))[j]'(by simpa using hj) = (es.toList.map (·.born))[i]'(by simpa using hi) := by
          simp [g2, hxi]
        exact e (nodup_inj hn g3)
  have hback : ∀ z, z ∈ (es.modify i fun e => { e with val := .int r c }).toList → ∃ y ∈ es.toList, z.key = y.key := by
    intro z hz
    obtain ⟨j, hj, rfl⟩ := modify_mem.1 hz
    exact ⟨es[j], by simp, by split <;> rfl⟩
  refine ⟨fun b => ?_, fun b => ?_⟩
  · rw [Bool.eq_iff_iff, hasE_iff, hasE_iff]
    constructor
    · rintro ⟨z, hz, e⟩
      obtain ⟨y, hy, e2⟩ := hback z hz
      exact ⟨y, hy, e2.symm.trans e⟩
    · rintro ⟨y, hy, e⟩
      obtain ⟨z, hz, e2, _⟩ := hmem y hy
      exact ⟨z, hz, e2.trans e⟩
  · cases hb : hasE q es b with
    | false =>
      have hne : b ≠ a := by rintro rfl; exact hasE_false hb x hx hk
      rw [if_neg hne]
      have : hasE q (es.modify i fun e => { e with val := .int r c }) b = false := by
        cases hh : hasE q (es.modify i fun e => { e with val := .int r c }) b with
        | false => rfl
        | true =>
          obtain ⟨z, hz, e⟩ := hasE_iff.1 hh
          obtain ⟨y, hy, e2⟩ := hback z hz
          exact absurd (e2.symm.trans e) (hasE_false hb y hy)
      unfold lkE
      rw [find_false this, find_false hb]
    | true =>
      obtain ⟨y, hy, e⟩ := hasE_iff.1 hb
      obtain ⟨z, hz, e2, e3⟩ := hmem y hy
      obtain ⟨a', c', g1, g2⟩ := h.2 y hy
      rcases e3 with ⟨e4, e5⟩ | ⟨e4, e5⟩
      · have : b = a := by rw [e] at e4; injection e4
        rw [if_pos this]
        exact lkE_of hW.1 hz (e2.trans e) e5
      · rw [if_neg (fun e6 => e4 (by rw [e, e6]))]
        rw [lkE_of hW.1 hz (e2.trans e) (e5.trans g2), lkE_of h.1 hy e g2]

def meArg (P : Program) (sl : Slots) (op : Op) : Option (List Prop × Nat × IntKind × Int × IntKind) :=
  match op with
  | .mapEntry t m k => match evs sl m, evs sl k, mapIn P t with
    | some (cs, .mp i), some (ds, .int q a), some (q', et, some r) => match zeroIn P et with
      | some (.int r' 0) => bif keq q q' && keq r r' then some (cs ++ ds, i, q', a, r) else none
      | _ => none
    | _, _, _ => none
  | _ => none
def esArg (sl : Slots) (op : Op) : Option (List Prop × Nat × Int × IntKind × Int) :=
  match op with
  | .entryStore _ m s x => match evs sl m, evs sl s, evs sl x with
    | some (cs, .mp i), some (ds, .int _ n), some (es, .int r c) => some (cs ++ ds ++ es, i, n, r, c)
    | _, _, _ => none
  | _ => none
def meO (q r : IntKind) (a : Int) : SO → Option (SO × SV)
  | .mape q' _ (.ints r' _) es clock => bif keq q q' && keq r r' then some (.mape q (hasE q (entA es clock q r a)) (.ints r (lkE q (entA es clock q r a))) (entA es clock q r a) (entC es clock q a), .tup [.int r (lkE q es a), .int .i64 (entS es clock q a)]) else none
  | _ => none
def esO (n : Int) (r : IntKind) (c : Int) : SO → Option (Prop × SO)
  | .mape q _ (.ints r' _) es clock => bif keq r r' then some ((stoI es n).isSome = true, .mape q (hasE q (stoA es n (.int r c))) (.ints r (lkE q (stoA es n (.int r c)))) (stoA es n (.int r c)) clock) else none
  | _ => none
def isEnt : Op → Bool
  | .mapEntry .. => true
  | .entryStore .. => true
  | _ => false
def dopQ (P : Program) (M : Mode) (ro : Hp) (ops : Array Oper) (idn : Nat) (o : Oper) (sl : Slots) (hp : Hp) : Option (List Prop × DR) :=
  match isEnt o.op with
  | false => dop P M ro ops idn o sl hp
  | true => match thin (opSlots ops o) sl with
    | none => none
    | some slv => match guardIn ops slv o with
      | some .run => match meArg P slv o.op with
        | some (cs, i, q, a, r) => match hget i hp with
          | some so => match meO q r a so with
            | some (so', v) => some (cs, ⟨opSlots ops o, o.dst, [i], [(i, so')], [], v⟩)
            | none => none
          | none => none
        | none => match esArg slv o.op with
          | some (cs, i, n, r, c) => match hget i hp with
            | some so => match esO n r c so with
              | some (p, so') => some (p :: cs, ⟨opSlots ops o, o.dst, [i], [(i, so')], [], .und⟩)
              | none => none
            | none => none
          | none => none
      | _ => none
theorem dopQ_dst {P : Program} {M : Mode} {ro : Hp} {ops : Array Oper} (idn : Nat) (o : Oper) (sl : Slots) (hp : Hp) (cs : List Prop) (d : DR) (h : dopQ P M ro ops idn o sl hp = some (cs, d)) : d.dst = o.dst := by
  unfold dopQ at h
  split at h
  · exact dop_dst h
  · split at h <;> first | exact (none_ne h).elim | skip
    split at h <;> first | exact (none_ne h).elim | skip
    split at h
    · split at h <;> first | exact (none_ne h).elim | skip
      split at h <;> first | exact (none_ne h).elim | skip
      simp only [Option.some.injEq, Prod.mk.injEq] at h
      obtain ⟨_, rfl⟩ := h; rfl
    · split at h <;> first | exact (none_ne h).elim | skip
      split at h <;> first | exact (none_ne h).elim | skip
      split at h <;> first | exact (none_ne h).elim | skip
      simp only [Option.some.injEq, Prod.mk.injEq] at h
      obtain ⟨_, rfl⟩ := h; rfl
/-- An entry is made. -/
theorem me_run {P : Program} {w : World} {t kt et : TypeId} {q r : IntKind} (hu : P.underlying t = some (.map kt et)) (hk : P.underlying kt = some (.int q)) (hz : ∀ u : World, (zeroValue et).run P u = .ok (.int r 0) u) {b : Nat} {es : Array MapEntry} {c : Nat}
    (hb : w.heap[b]? = some (.map es c)) (h : WFm q r es c) (a : Int) :
    (Instr.mapEntry t (.map (some b)) (.int q a)).run P w = .ok (.tuple #[.int r (lkE q es a), .int .i64 (entS es c q a)]) { w with heap := w.heap.setIfInBounds b (.map (entA es c q r a) (entC es c q a)) } := by
  obtain ⟨f, g1, g2, g3⟩ := find_run (P := P) (w := w) hk (h.rel Env.nil) a
  unfold entA entC entS
  cases hn : hasE q es a with
  | true =>
    obtain ⟨j, e, rfl, hj, hkey, _⟩ := g2 hn
    have hx : e ∈ es.toList := List.mem_of_getElem? (by simpa using hj)
    obtain ⟨a', c', h1, h2⟩ := h.2 e hx
    have hsame : es.modify j (fun x => { x with key := .int q a }) = es := by
      apply Array.ext
      · simp
      · intro i h1 h2
        rw [Array.getElem_modify]
        split
        · rename_i e1
          subst e1
          have : es[j] = e := (Array.getElem?_eq_some_iff.1 hj).2
          rw [this, ← hkey]
        · rfl
    rw [find_key h.1 hx hkey, lkE_of h.1 hx hkey h2]
    simp [Instr.mapEntry, run_underlying hu, MapKept.run_getObj_map hb, MapKept.run_checkKey (k := .int q a) hk rfl, g1, hj, hkey, MapKept.run_keyThatStays (d := .int q) (k := .int q a) rfl, MapKept.run_setObj_map _ hb, Result.andThen, hsame, h2, goInt]
  | false =>
    obtain ⟨rfl, hno⟩ := g3 hn
    have hf := find_false hn
    have hl : lkE q es a = 0 := by unfold lkE; rw [hf]
    rw [hf, hl]
    simp [Instr.mapEntry, run_underlying hu, MapKept.run_getObj_map hb, MapKept.run_checkKey (k := .int q a) hk rfl, g1, hz, MapKept.run_setObj_map _ hb, Result.andThen, goInt]
/-- And filled. -/
theorem es_run {P : Program} {w : World} {t : TypeId} {b : Nat} {es : Array MapEntry} {c : Nat} {k : IntKind} (hb : w.heap[b]? = some (.map es c)) (n : Int) (v : Value) (hi : (stoI es n).isSome = true) :
    (Instr.entryStore t (.map (some b)) (.int k n) v).run P w = .ok () { w with heap := w.heap.setIfInBounds b (.map (stoA es n v) c) } := by
  unfold stoA
  cases hs : stoI es n with
  | none => rw [hs] at hi; cases hi
  | some i =>
    have hs : es.findIdx? (fun e => (e.born : Int) == n) = some i := hs
    simp [Instr.entryStore, MapKept.run_getObj_map hb, asInt, asIntOf, hs, MapKept.run_setObj_map _ hb, Result.andThen]
theorem orel_mape {β : Env} {q : IntKind} {h : Int → Bool} {E : MEl} {es : Array MapEntry} {c : Nat} (m : MRel β q h E es c) : ORel β (.mape q h E es c) (.map es c) := ⟨rfl, m⟩
section
variable {P : Program} {M : Mode} {ro : Hp} {ops : Array Oper} {T : List (List Nat)} {n nx K m b : Nat} {Sl : Nat → Slots} {Hs : Nat → Hp} {dr : Nat → DR} {B : Base}
theorem ent_did {D : DRel} {dd : List Deferred} (hch : Chain D ops n nx m b Sl Hs dr) (hin : Indeps T m b dr) (h0 : ∀ t v, look t (Sl 0) = some v → t < n) {X : Nat → Prop} (hX' : Closed T m b X) {j : Nat} (hj : j < b) (hjX : ¬ X j)
    (hpre : ∀ i, i < b → inT T (m + i) (m + j) = true → X i) {β : Env} {tmps : Array Value} {w : World} (hI : Inv b nx K Sl Hs dr ro B X β tmps w) (hsz : tmps.size = n)
    {o : Oper} {cs : List Prop} (ho : ops[m + j]? = some o) (hc : All cs) (he : isEnt o.op = true) (hd : dopQ P M ro ops (nx + j) o (Sl j) (Hs j) = some (cs, dr j)) (fb : Frame) (k : List Item) (fs : List Frame) (r : List Nat) :
    ∃ (β' : Env) (w' : World) (v : Value), Did (Hs j) β (dr j) (· = nx + j) w β' w' ∧ Rel β' (dr j).v v ∧
      Steps P (lone (fb.atR ⟨tmps, dd⟩ (.inRegion ops ((m + j) :: r) :: k)) fs w) (lone (fb.atR (Act.put ⟨tmps, dd⟩ (dr j).dst v) (.inRegion ops r :: k)) fs w') := by
  have hdd := dopQ_dst _ _ _ _ _ _ hd
  have hltj := chain_lt hch h0 j (by omega)
  unfold dopQ at hd
  rw [he] at hd
  simp only at hd
  split at hd <;> first | exact (none_ne hd).elim | skip
  rename_i slv e1
  split at hd <;> first | exact (none_ne hd).elim | skip
  rename_i e2
  have key : (dr j).rs = opSlots ops o → Rho β slv (Act.eval ⟨tmps, dd⟩) ∧ Region.wanted o (yielded ops tmps) = true := by
    intro hrs
    have hrho := rho_view (dd := dd) hch hin hX' hj hjX hpre hI e1 hrs
    refine ⟨hrho, guard_rel e2 hsz hrho.slot ?_⟩
    intro t v hv
    rw [thin_get e1 t] at hv
    split at hv
    · rw [hsz]; exact hltj t v hv
    · cases hv
  have blk : ∀ {i so}, (dr j).rh = [i] → hget i (Hs j) = some so → so.Live → ∃ bl o', β i = some bl ∧ w.heap[bl]? = some o' ∧ ORel β so o' ∧ Fit (β.room i) o' := by
    intro i so hrh hi hl
    obtain ⟨kk, k1, k2⟩ := read_heap hch hin hX' hj hjX hpre (t := i) (by rw [hrh]; exact List.mem_cons_self ..)
    obtain ⟨bl, o', q1, _, q3, q4, q5⟩ := hI.H i kk so k1 (by rw [k2]; exact hi) hl
    exact ⟨bl, o', q1, q3, q4, q5⟩
  have done : ∀ {i so so' q hh E es c es' c'} , (dr j).rh = [i] → (dr j).wh = [(i, so')] → (dr j).dl = [] → hget i (Hs j) = some so → so = .mape q hh E es c → ∀ {bl}, β i = some bl → w.heap[bl]? = some (.map es c) → Fit (β.room i) (.map es c) → ORel β so' (.map es' c') →
      Did (Hs j) β (dr j) (· = nx + j) w β { w with heap := w.heap.setIfInBounds bl (.map es' c') } := by
    intro i so so' q hh E es c es' c' hrh hwh hdl hi hso bl hβ hb hfit hor
    have hmod : (dr j).mod = [i] := by unfold DR.mod; rw [hwh, hdl]; rfl
    have hlt : bl < w.heap.size := (Array.getElem?_eq_some_iff.1 hb).1
    refine ⟨Env.le_refl _, fun _ _ h => .inl h, fun i' h => .inr (by rw [hmod] at h; rw [hrh]; exact h), fun i' s' h1 h2 => ?_, fun i1 i2 s1 s2 h1 h2 _ _ hne => ?_, fun bl' o' h1 h2 => ?_, rfl, rfl, rfl, by simp⟩
    · rw [hwh] at h1
      obtain ⟨rfl, rfl⟩ := hget_one h1
      refine ⟨bl, .map es' c', hβ, by simp [hlt], hor, ⟨trivial, hfit.s⟩, .inr ⟨i', so, by rw [hmod]; exact List.mem_cons_self .., hi, by rw [hso]; trivial, hβ⟩⟩
    · rw [hwh] at h1 h2
      exact absurd ((hget_one h1).1.trans (hget_one h2).1.symm) hne
    · have : bl' ≠ bl := by
        rintro rfl
        exact h2 i so (by rw [hmod]; exact List.mem_cons_self ..) hi (by rw [hso]; trivial) hβ
      simp [Ne.symm this, h1]
  split at hd
  · rename_i cs1 i q a r' e3
    split at hd <;> first | exact (none_ne hd).elim | skip
    rename_i so e4
    split at hd <;> first | exact (none_ne hd).elim | skip
    rename_i so' v e5
    simp only [Option.some.injEq, Prod.mk.injEq] at hd
    obtain ⟨rfl, hd⟩ := hd
    obtain ⟨hrho, hw⟩ := key (by rw [← hd])
    unfold meO at e5
    split at e5 <;> first | exact (none_ne e5).elim | skip
    rename_i q' hh r2 vv es clock
    obtain ⟨hq, e5'⟩ := bif_some' e5
    clear e5
    have e5 := e5'
    clear e5'
    rw [Bool.and_eq_true] at hq
    have := keq_spec hq.1; subst this
    have := keq_spec hq.2; subst this
    simp only [Option.some.injEq, Prod.mk.injEq] at e5
    obtain ⟨rfl, rfl⟩ := e5
    obtain ⟨bl, o', q1, q3, q4, q5⟩ := blk (by rw [← hd]) e4 trivial
    obtain ⟨rfl, hm⟩ := q4
    have hwf := hm.wf.1
    -- the operation
    generalize hop : o.op = op at e3
    unfold meArg at e3
    split at e3 <;> first | exact (none_ne e3).elim | skip
    rename_i t mm kk
    split at e3 <;> first | exact (none_ne e3).elim | skip
    rename_i c1 i1 c2 q1' a1 q2' et r1 f1 f2 f3
    split at e3 <;> first | exact (none_ne e3).elim | skip
    rename_i r3 f4
    obtain ⟨hq2, e3'⟩ := bif_some' e3
    clear e3
    have e3 := e3'
    clear e3'
    rw [Bool.and_eq_true] at hq2
    have hk1 := keq_spec hq2.1
    have hk2 := keq_spec hq2.2
    subst hk1 hk2
    simp only [Option.some.injEq, Prod.mk.injEq] at e3
    obtain ⟨rfl, rfl, rfl, rfl, rfl⟩ := e3
    obtain ⟨kt, u1, u2⟩ := mapIn_spec f3
    obtain ⟨b1, hb1, em⟩ := evs_rel hrho f1 hc.left
    rw [q1] at hb1; injection hb1 with hb1; subst hb1
    have ek := evs_rel hrho f2 hc.right
    have hz := zeroIn_int f4
    refine ⟨β, _, .tuple #[.int r1 (lkE q1' es a1), .int .i64 (entS es clock q1' a1)], done (by rw [← hd]) (by rw [← hd]) (by rw [← hd]) e4 rfl q1 q3 q5 (orel_mape ((hwf.ent a1).rel β)), by rw [← hd]; exact ⟨[_, _], rfl, _, _, rfl, rfl, _, _, rfl, rfl, rfl⟩, ?_⟩
    rw [hdd]
    have hx : (execOp (Act.eval ⟨tmps, dd⟩) o).run P w = .ok (.value (.tuple #[.int r1 (lkE q1' es a1), .int .i64 (entS es clock q1' a1)])) { w with heap := w.heap.setIfInBounds bl (.map (entA es clock q1' r1 a1) (entC es clock q1' a1)) } := by
      unfold execOp
      rw [hop]
      simp only [Sem.run_bind]
      rw [em, show (Act.eval ⟨tmps, dd⟩ kk) = .int q1' a1 from ek, me_run u1 u2 hz q3 hwf a1]
      rfl
    exact .one (op_value ho hw hx)
  · split at hd <;> first | exact (none_ne hd).elim | skip
    rename_i cs1 i n' r' c e3
    split at hd <;> first | exact (none_ne hd).elim | skip
    rename_i so e4
    split at hd <;> first | exact (none_ne hd).elim | skip
    rename_i p so' e5
    simp only [Option.some.injEq, Prod.mk.injEq] at hd
    obtain ⟨rfl, hd⟩ := hd
    obtain ⟨hrho, hw⟩ := key (by rw [← hd])
    unfold esO at e5
    split at e5 <;> first | exact (none_ne e5).elim | skip
    rename_i q' hh r2 vv es clock
    obtain ⟨hq, e5'⟩ := bif_some' e5
    clear e5
    have e5 := e5'
    clear e5'
    have := keq_spec hq; subst this
    simp only [Option.some.injEq, Prod.mk.injEq] at e5
    obtain ⟨rfl, rfl⟩ := e5
    obtain ⟨bl, o', q1, q3, q4, q5⟩ := blk (by rw [← hd]) e4 trivial
    obtain ⟨rfl, hm⟩ := q4
    have hwf := hm.wf.1
    generalize hop : o.op = op at e3
    unfold esArg at e3
    split at e3 <;> first | exact (none_ne e3).elim | skip
    rename_i t mm ss xx
    split at e3 <;> first | exact (none_ne e3).elim | skip
    rename_i c1 i1 c2 k1 n1 c3 r1 x1 f1 f2 f3
    simp only [Option.some.injEq, Prod.mk.injEq] at e3
    obtain ⟨rfl, rfl, rfl, rfl, rfl⟩ := e3
    obtain ⟨b1, hb1, em⟩ := evs_rel hrho f1 hc.tail.left.left
    rw [q1] at hb1; injection hb1 with hb1; subst hb1
    have en := evs_rel hrho f2 hc.tail.left.right
    have ex := evs_rel hrho f3 hc.tail.right
    refine ⟨β, _, undef, done (by rw [← hd]) (by rw [← hd]) (by rw [← hd]) e4 rfl q1 q3 q5 (orel_mape ((hwf.sto n1 x1).rel β)), by rw [← hd]; trivial, ?_⟩
    rw [hdd]
    have hx : (execOp (Act.eval ⟨tmps, dd⟩) o).run P w = .ok .skip { w with heap := w.heap.setIfInBounds bl (.map (stoA es n1 (.int r1 x1)) clock) } := by
      unfold execOp
      rw [hop]
      simp only [Sem.run_bind]
      rw [em, show (Act.eval ⟨tmps, dd⟩ ss) = .int k1 n1 from en, show (Act.eval ⟨tmps, dd⟩ xx) = .int r1 x1 from ex, es_run q3 n1 _ hc.head]
      rfl
    exact .one (op_unit ho hw hx)
variable {f : FuncId} {R : Ending → World → Prop}
/-- A block of b operations from the m-th on, in whatever order, entries of maps among them. -/
theorem run_drawQ (b : Nat) (hP : Named P) (hB : B.ok) (hM : SumOk P M.sum) {fn : FId} {n : Nat} {sl sl' : Slots} {ops : Array Oper} {m t : Nat} {k : List SI} {rest : List SFr} {hp hp' : Hp} {nx nx' : Nat} {T : List (List Nat)} {cs : List Prop} {l : List DR}
    (hT : closeGo [] ops.toList = some T) (hN : natF (nx + b * 1) some = some nx') (hb : dblkG (dopQ P M ro ops) n ((ops.toList.drop m).take b) nx sl hp [] = some (cs, sl', hp', l)) (hle : Nat.ble (m + b) ops.size = true) (hi : indepAll T m l = true)
    (hbar : barAll T m b (m + b) (ops.size - (m + b)) = true) (hc : conj cs)
    (h : ∀ t, Run P ro B f R ⟨⟨fn, n, sl', .reg ops (m + b) [] (some (goF ops (m + b) t)) :: k⟩, rest, hp', nx'⟩) : Run P ro B f R ⟨⟨fn, n, sl, .reg ops m [] (some (goF ops m t)) :: k⟩, rest, hp, nx⟩ := by
  rw [natF_eq] at hN
  injection hN with hN; subst hN
  have hle' := ble_nat hle
  have hlen : ((ops.toList.drop m).take b).length = b := by simp; omega
  obtain ⟨_, Sl, Hs, dr, c1, c2, c3, c4, hch, c5, c6⟩ := dblkG_chain (dopQ_dst (P := P) (M := M) (ro := ro) (ops := ops)) (ops := ops) (m := m) hb (all_conj hc) (fun i hi => by
    rw [hlen] at hi
    rw [List.getElem?_take, if_pos hi, List.getElem?_drop]; simp)
  rw [hlen] at c3 c4 hch c5 c6
  have hin : Indeps T m b dr := fun i j hij hj hT0 => by
    rcases indepAll_spec hi i j (dr i) (dr j) hij (c5 i (by omega)) (c5 j hj) with h | h
    · rw [h] at hT0; cases hT0
    · exact h
  refine run_drawJ b (nx' := nx + b * 1) (dst := fun j => (dr j).dst) (J := fun X β tmps w => Inv b nx 1 Sl Hs dr ro B X β tmps w) hT hle hbar (fun β tmps w h1 h2 => inv_none (fun _ _ _ => trivial) (by rw [c1]; exact h1) (by rw [c2]; exact h2))
    (fun hlt dd fb k fs X j hX hj hjX hpre β tmps w hI hsz r => ?_) (fun β tmps w hI => by have := inv_all hch hI; rw [c3, c4] at this; exact this)
    (fun hlt => by rw [← c3]; exact chain_lt hch (by rw [c1]; exact hlt) b (Nat.le_refl _)) h
  obtain ⟨o, cs1, d1, d2, ⟨d3, d4⟩, d5, d6⟩ := hch.step j hj
  cases he : isEnt o.op with
  | false =>
    have d3' := d3
    unfold dopQ at d3'
    rw [he] at d3'
    obtain ⟨β1, w1, v, a1, a2, a4⟩ := op_did1 hP hM hch hin (by rw [c1]; exact hlt) hX hj hjX hpre hI hsz d1 d2 d3' fb k fs r
    exact ⟨β1, w1, v, a1.le, inv_step hB hch hin hX hj hjX hpre hI hsz (fun i hi => ⟨0, by omega, by simpa using hi⟩) a1 a2, a4⟩
  | true =>
    obtain ⟨β1, w1, v, a1, a2, a4⟩ := ent_did hch hin (by rw [c1]; exact hlt) hX hj hjX hpre hI hsz d1 d2 he d3 fb k fs r
    exact ⟨β1, w1, v, a1.le, inv_step hB hch hin hX hj hjX hpre hI hsz (fun i hi => ⟨0, by omega, by simpa using hi⟩) a1 a2, a4⟩
/-- A map's entries are named. -/
theorem run_mlay (i : Nat) {q r : IntKind} {h : Int → Bool} {v : Int → Int} {fn : FId} {n : Nat} {sl : Slots} {td : List SI} {rest : List SFr} {hp : Hp} {nx : Nat} (hi : hget i hp = some (.map q h (.ints r v)))
    (hr : ∀ es clock, WFm q r es clock → (∀ a, hasE q es a = h a) → (∀ a, h a = true → lkE q es a = v a) → ∃ hp', hset i (.mape q (hasE q es) (.ints r (lkE q es)) es clock) hp = some hp' ∧ Run P ro B f R ⟨⟨fn, n, sl, td⟩, rest, hp', nx⟩) : Run P ro B f R ⟨⟨fn, n, sl, td⟩, rest, hp, nx⟩ := by
  intro β w fr frs cs hf hfs hs hcs
  obtain ⟨b, o, h1, h2, h3, h4, h5⟩ := hs.own i _ hi trivial
  obtain ⟨es, clock, rfl, hm⟩ := h4
  obtain ⟨hwf, hh, hv⟩ := hm.wf
  obtain ⟨hp', e1, hrun⟩ := hr es clock hwf hh hv
  exact hrun β w fr frs cs hf hfs ⟨hs.toMem.set e1 ⟨hi, trivial⟩ h1 ⟨rfl, hwf.rel β⟩ h5 h3 (fun _ _ => rfl) rfl rfl rfl rfl, hs.fresh⟩ hcs
end
/-- What a map holds after an entry was made and filled. -/
theorem put_spec2 {q r : IntKind} {es : Array MapEntry} {clock : Nat} (h : WFm q r es clock) (a c : Int) :
    (stoI (entA es clock q r a) (entS es clock q a)).isSome = true ∧ (∀ b, hasE q (stoA (entA es clock q r a) (entS es clock q a) (.int r c)) b = (ieq b a || hasE q es b)) ∧ ∀ b, lkE q (stoA (entA es clock q r a) (entS es clock q a) (.int r c)) b = if b = a then c else lkE q es b := by
  obtain ⟨h1, h2, x, hx, hk, hb, _⟩ := entA_spec h a
  obtain ⟨i, g1, _⟩ := stoI_of (h.ent a).1 hx
  obtain ⟨g2, g3⟩ := stoA_spec (h.ent a) hx hk c
  rw [hb] at g1 g2 g3
  refine ⟨by rw [g1]; rfl, fun b => by rw [g2, h1], fun b => by rw [g3, h2]⟩
end Sx
end
section
namespace Sx
open Go Go.ChangeShapes Go.WideShapes
section
variable {H : Type} {enc : TypeId × Value → H} {P : Program} {w : World}
/-- What is known at the start: all that lies there. -/
abbrev K0 (w : World) : Kn := fun b => w.heap[b]?
theorem froz_of {t e : TypeId} {sz fuel : Nat} {v : Value} {x : DataW H × List MemPlace} (ht : P.underlying t = some (.slice e)) (hsz : P.cellsOf e = sz) (hp : 0 < sz)
    (h : DataW.trod enc P w 0 (fun _ => true) true fuel t [v] = some x) :
    ∃ (n : Nat) (C : Nat → List Value), (∀ i, i < n → ∃ m y, DataW.trod enc P w 0 (fun _ => true) true m e (C i) = some y) ∧
      ∀ f : Nat → Nat → SV, (∀ i k, i < n → k < sz → ∃ u, (C i)[k]? = some u ∧ Rel Env.nil (f i k) u) → Froz (K0 w) v n sz f := by
  obtain ⟨off, n, C, β, hC, hr, hs, hcell⟩ := slice_argC ht hsz hp h
  obtain ⟨base, room, e1, e2, _, _, e5⟩ := hr
  refine ⟨n, C, hC, fun f hf => ⟨base, room, e1, e2, fun h0 => ?_⟩⟩
  obtain ⟨g1, b, g2, g3, _⟩ := e5 h0
  obtain ⟨b', c, tt, fz, q1, q2, _⟩ := hcell 0 h0
  rw [g2] at q1; injection q1 with q1; subst q1
  refine ⟨g1, b, off, c, tt, fz, by rw [g3]; simp, q2, fun i k hi hk => ?_⟩
  obtain ⟨b2, c2, tt2, fz2, r1, r2, r3⟩ := hcell i hi
  rw [g2] at r1; injection r1 with r1; subst r1
  rw [q2] at r2
  simp only [Option.some.injEq, Obj.cells.injEq] at r2
  obtain ⟨rfl, _, _⟩ := r2
  obtain ⟨u, hu, hr⟩ := hf i k hi hk
  exact ⟨u, (r3 k hk).trans hu, hr⟩
theorem slice_one {t e : TypeId} {fuel : Nat} {cs : List Value} {x : DataW H × List MemPlace} (ht : P.underlying t = some (.slice e)) (h : DataW.trod enc P w 0 (fun _ => true) true fuel t cs = some x) : ∃ v, cs = [v] ∧ v.oneCell' = true := by
  cases fuel with
  | zero => simp [DataW.trod] at h
  | succ n =>
    rcases cs with _ | ⟨v, _ | ⟨u, r⟩⟩
    · simp [DataW.trod, ht] at h
    · refine ⟨v, rfl, ?_⟩
      cases v <;> first | rfl | (simp [DataW.trod, ht] at h; done)
    · simp [DataW.trod, ht] at h
end
/-- A contract that leaves nothing behind, at the law's own call. -/
theorem hendX_below {w : World} {β : Env} {ro : Hp} {e : Ending} {w' : World} {n : Nat} {ψ : Unit → Kn → Prop} (h : HEndX β (Base.all w) (K0 w) M0 ro ψ (fun _ => ⟨.tt, [], n⟩) e w') : e = .returned (.bool true) ∧ RowKit.Below w.heap.size w w' := by
  obtain ⟨z, β', u, B', K', _, _, rfl, hu, hF, hs⟩ := h
  have hu : u = .bool true := hu
  subst hu
  have hs0 : Sat β' [] [] B' n w' := ⟨⟨hs.own, hs.apart, fun _ _ h => (none_ne h).elim, hs.old, hs.os, hs.tape, hs.output, hs.size, hs.pin⟩, hs.fresh⟩
  exact ⟨rfl, (hF.sat hs0).below_all⟩
end Sx
end
section
namespace Sx
open Go Go.ChangeShapes Go.WideShapes
theorem sat_open {K : Kn} {B : Base} (hK : ∀ b o, K b = some o → B.D b = some o) {v : Value} {m sz : Nat} {g : Nat → Nat → SV} (hF : Froz K v m sz g) (hsz : 0 < sz) {β : Env} {hp ro : Hp} {nx : Nat} {w : World} (hs : Sat β hp ro B nx w) :
    ∃ off, ∃ β' : Env, β.le β' ∧ Rel β' (.sq nx off 0 sz m .no) v ∧ Sat β' hp ((nx, .row off m m sz g anyTy) :: ro) B (nx + 1) w := by
  obtain ⟨base, room, e1, e2, e3⟩ := hF
  rcases Nat.eq_zero_or_pos m with h0 | h0
  · subst h0
    refine ⟨0, β, Env.le_refl _, ⟨base, room, e1, e2, fun h => (by cases h), fun h => (by cases h), fun h => absurd h (Nat.lt_irrefl _)⟩, ⟨⟨hs.own, hs.apart, fun i s hi hl => ?_, hs.old, hs.os, hs.tape, hs.output, hs.size, hs.pin⟩, fun i hi => hs.fresh i (by show nx ≤ i; omega)⟩⟩
    simp only [hget] at hi
    cases hb : Nat.beq i nx with
    | true => rw [hb] at hi; simp only [cond_true, Option.some.injEq] at hi; subst hi; exact absurd hl (Nat.lt_irrefl 0)
    | false => rw [hb] at hi; exact hs.read i s hi hl
  · obtain ⟨h4, b, o, c, tt, fz, h5, h6, h7⟩ := e3 h0
    have hfr := hs.fresh nx (Nat.le_refl _)
    have hle := Env.le_add (b := b) (r := 0) hfr
    have hne : ∀ i b', β i = some b' → i ≠ nx := by
      intro i b' h e; subst e; rw [hfr] at h; cases h
    refine ⟨o, β.add nx b 0, hle, ⟨base, room, e1, e2, fun h => (by cases h), fun h => (by cases h), fun _ => ⟨h4, b, Env.add_same _ _ _ _, by rw [h5]; simp, fun h => (by cases h)⟩⟩, ⟨⟨fun i s hi hl => ?_, fun i j s t hi hj hl ht hij => ?_, fun i s hi hl => ?_, hs.old, hs.os, hs.tape, hs.output, hs.size, Env.le_trans hs.pin hle⟩, fun i hi => ?_⟩⟩
    · obtain ⟨b', o', h1, h2, h3, h4, h5⟩ := hs.own i s hi hl
      have hn := hne i b' h1
      exact ⟨b', o', (Env.add_other _ _ _ hn).trans h1, h2, h3, ORel.mono hle _ _ h4, by rw [Env.add_room_other _ _ _ hn]; exact h5⟩
    · obtain ⟨b1, o1, h1, _⟩ := hs.own i s hi hl
      obtain ⟨b2, o2, h2, _⟩ := hs.own j t hj ht
      rw [Env.add_other _ _ _ (hne i b1 h1), Env.add_other _ _ _ (hne j b2 h2)]
      exact hs.apart i j s t hi hj hl ht hij
    · simp only [hget] at hi
      cases hb : Nat.beq i nx with
      | true =>
        rw [hb] at hi; simp only [cond_true, Option.some.injEq] at hi; subst hi
        have := beq_nat hb; subst this
        refine ⟨b, _, Env.add_same _ _ _ _, hK _ _ h6, c, fz, tt, .inl rfl, rfl, Nat.le_refl _, ?_, fun i k hi hk => ?_⟩
        · obtain ⟨u, hu, _⟩ := h7 (m - 1) (sz - 1) (by omega) (by omega)
          have := (Array.getElem?_eq_some_iff.1 hu).1
          have h8 : (m - 1) * sz + sz = m * sz := by
            obtain ⟨q, rfl⟩ : ∃ q, m = q + 1 := ⟨m - 1, by omega⟩
            simp [Nat.succ_mul]
          omega
        · obtain ⟨u, hu, hr⟩ := h7 i k hi hk
          exact ⟨u, hu, Rel.mono (Env.nil_le _) _ _ hr⟩
      | false =>
        rw [hb] at hi
        obtain ⟨b', o', h1, h2, h3⟩ := hs.read i s hi hl
        exact ⟨b', o', (Env.add_other _ _ _ (hne i b' h1)).trans h1, h2, ORel.mono hle _ _ h3⟩
    · rw [Env.add_other _ _ _ (by omega)]; exact hs.fresh i (by show nx ≤ i; omega)
theorem hck_open {P : Program} {K : Kn} {f : FuncId} {v : Value} {m sz : Nat} {g : Nat → Nat → SV} (hF : Froz K v m sz g) (hsz : 0 < sz) {xs : List SV} {s0 : SO} {o o0 : Out}
    (h : ∀ off, HC P f (xs ++ [.sq 1 off 0 sz m .no]) [] [(0, s0), (1, .row off m m sz g anyTy)] 2 (fun _ : Unit => True) (fun _ => o))
    (he : ∀ (B : Base) β w u, PinTo B 1 → Sat β o.hp [(0, s0)] B o.nx w → Rel β o.r u → HEnd B.pin B [(0, s0)] (fun _ : Unit => True) (fun _ => o0) (.returned u) w) :
    HCK P K f (xs ++ [.val v]) [] [(0, s0)] 1 (fun _ : Unit => True) (fun _ => o0) := by
  intro B β w vs hB hK hl hs0
  obtain ⟨off, β1, hle, hrel, hs1⟩ := sat_open hK hF hsz hs0
  have hl1 : RelL β1 (xs ++ [.sq 1 off 0 sz m .no]) vs := by
    have : ∀ (xs : List SV) (vs : List Value), RelL β (xs ++ [.val v]) vs → RelL β1 (xs ++ [.sq 1 off 0 sz m .no]) vs := by
      intro xs
      induction xs with
      | nil =>
        rintro vs ⟨u, us, rfl, hu, hr⟩
        have hu : u = v ∧ _ := hu
        exact ⟨u, us, rfl, by rw [hu.1]; exact hrel, hr⟩
      | cons x xs ih =>
        rintro vs ⟨u, us, rfl, hu, hr⟩
        exact ⟨u, us, rfl, Rel.mono hle _ _ hu, ih us hr⟩
    exact this xs vs hl
  have hs2 : Sat β1 [] [(0, s0), (1, .row off m m sz g anyTy)] ⟨B.D, B.w, β, Kind.norm⟩ 2 w := ⟨⟨hs1.own, hs1.apart, fun i s hi hl => hs1.read i s (by
    match i, hi with
    | 0, hi => exact hi
    | 1, hi => exact hi
    | i + 2, hi => cases hi) hl, hs1.old, hs1.os, hs1.tape, hs1.output, hs1.size, hle⟩, hs1.fresh⟩
  refine (h off ⟨B.D, B.w, β, Kind.norm⟩ β1 w vs hB hl1 hs2).mono ?_
  rintro e w' ⟨_, β', u, _, h2, rfl, h4, h5⟩
  have h6 : Sat β' o.hp [(0, s0)] ⟨B.D, B.w, β, Kind.norm⟩ o.nx w' := ⟨⟨h5.own, h5.apart, fun i s hi hl => h5.read i s (by
    match i, hi with
    | 0, hi => exact hi
    | i + 1, hi => cases hi) hl, h5.old, h5.os, h5.tape, h5.output, h5.size, h5.pin⟩, h5.fresh⟩
  obtain ⟨z, β2, u2, g1, g2, g3, g4, g5⟩ := he ⟨B.D, B.w, β, Kind.norm⟩ β' w' u ⟨hs0.fresh, rfl⟩ h6 h4
  exact ⟨z, β2, u2, g1, g2, g3, g4, ⟨g5.own, g5.apart, g5.read, g5.old, g5.os, g5.tape, g5.output, g5.size, Env.le_trans hs0.pin g2⟩, g5.fresh⟩
end Sx
end
section
namespace Sx
open Go
section
variable {P : Program} {ro : Hp} {B : Base} {f : FuncId} {R : Ending → World → Prop}
/-- A lookup among values known for good, where nothing is told by nil. -/
theorem run_mval {q : IntKind} {h : Int → Bool} {V : Int → Value} {fn : FId} {n : Nat} {sl sl' : Slots} {ops : Array Oper} {i0 : Nat} {o : Oper} {cur : List Oper} {tl : Option (List Nat)} {k : List SI} {rest : List SFr} {hp : Hp} {nx i : Nat} {t et : TypeId} {x ix : Operand} {cs0 cs1 : List Prop} {a : Int} {rr : Option IntKind}
    (hV : ∀ a, h a = false → V a = .slice none 0 0) (hi : hget i hp = some (.map q h (.any fun a => .val (V a)))) (ho : o.op = .lookup t x ix false) (hgd : guardIn ops sl o = some .run) (hx : evs sl x = some (cs0, .mp i)) (hc0 : conj cs0) (hix : evs sl ix = some (cs1, .int q a)) (hc1 : conj cs1) (hm : mapIn P t = some (q, et, rr)) (hz : zeroIn P et = some .nilsl)
    (hput : put o.dst (.val (V a)) n sl = some sl') (hr : Run P ro B f R ⟨⟨fn, n, sl', .reg ops (i0 + 1) cur tl :: k⟩, rest, hp, nx⟩) :
    Run P ro B f R ⟨⟨fn, n, sl, .reg ops i0 (o :: cur) tl :: k⟩, rest, hp, nx⟩ := by
  refine run_op hr hput ?_
  intro β w tmps b k' fs r dd hn hsl hlt hs hk hop
  have hw := guard_rel hgd hn hsl hlt
  have hrho : Rho β sl (Act.eval ⟨tmps, dd⟩) := ⟨hsl, fun _ => rfl, fun _ => rfl⟩
  obtain ⟨b0, hβ, hv⟩ := evs_rel hrho hx (all_conj hc0)
  have hxi := evs_rel hrho hix (all_conj hc1)
  obtain ⟨b', ob, k1, k2, k3, k4, k5⟩ := hs.own _ _ hi trivial
  rw [hβ] at k1; injection k1 with k1; subst k1
  obtain ⟨es, clock, rfl, g⟩ := k4
  obtain ⟨kt, hu, hkt⟩ := mapIn_spec hm
  obtain ⟨fa, g1, g2, g3⟩ := find_run (P := P) (w := w) hkt g a
  obtain ⟨zv, z1, z2⟩ := zeroIn_run (P := P) hz β w
  have z2 : zv = .slice none 0 0 := z2
  subst z2
  have key : (Instr.lookup t (.map (some b0)) (.int q a) false).run P w = .ok (V a) w ∧ (V a).oneCell' = true := by
    cases ha : h a with
    | true =>
      obtain ⟨j, e, rfl, _, _, he⟩ := g2 ha
      have he : e.val = V a ∧ (V a).oneCell' = true := he
      refine ⟨?_, he.2⟩
      simp only [Instr.lookup, Sem.run_bind, run_underlying hu, Result.andThen, MapKept.run_getObj_map k3, Sem.run_pure, MapKept.run_checkKey (k := .int q a) hkt rfl, g1, he.1]
      rfl
    | false =>
      obtain ⟨rfl, _⟩ := g3 ha
      rw [hV a ha]
      refine ⟨?_, rfl⟩
      simp only [Instr.lookup, Sem.run_bind, run_underlying hu, Result.andThen, MapKept.run_getObj_map k3, Sem.run_pure, MapKept.run_checkKey (k := .int q a) hkt rfl, g1, z1]
      rfl
  refine ⟨β, w, V a, Env.le_refl _, hs, ⟨rfl, key.2⟩, .one (op_value hop hw ?_)⟩
  simp only [execOp, ho, Sem.run_bind]
  rw [show (Act.eval ⟨tmps, dd⟩ x) = .map (some b0) from hv, show (Act.eval ⟨tmps, dd⟩ ix) = .int q a from hxi]
  simp only [key.1, Result.andThen]
  rfl
/-- Whether a slice is nil. -/
def isNilS : Value → Bool
  | .slice none _ _ => true
  | _ => false
/-- A slice known for good, against nil. -/
theorem run_vnil {fn : FId} {n : Nat} {sl sl' : Slots} {ops : Array Oper} {i0 : Nat} {o : Oper} {cur : List Oper} {tl : Option (List Nat)} {k : List SI} {rest : List SFr} {hp : Hp} {nx : Nat} {t a t' : TypeId} {x : Operand} {cs0 : List Prop} {base : Option Addr} {len room : Nat}
    (hu : P.underlying t = some (.slice a)) (ho : o.op = .binOp .eql t x (.const (.slice none 0 0)) t') (hgd : guardIn ops sl o = some .run) (hx : evs sl x = some (cs0, .val (.slice base len room))) (hc0 : conj cs0) (hb : base = none → len = 0 ∧ room = 0)
    (hput : put o.dst (.sb base.isNone) n sl = some sl') (hr : Run P ro B f R ⟨⟨fn, n, sl', .reg ops (i0 + 1) cur tl :: k⟩, rest, hp, nx⟩) :
    Run P ro B f R ⟨⟨fn, n, sl, .reg ops i0 (o :: cur) tl :: k⟩, rest, hp, nx⟩ := by
  refine run_op hr hput ?_
  intro β w tmps b k' fs r dd hn hsl hlt hs hk hop
  have hw := guard_rel hgd hn hsl hlt
  have hrho : Rho β sl (Act.eval ⟨tmps, dd⟩) := ⟨hsl, fun _ => rfl, fun _ => rfl⟩
  have hv : Act.eval ⟨tmps, dd⟩ x = .slice base len room := (evs_rel hrho hx (all_conj hc0)).1
  refine ⟨β, w, .bool base.isNone, Env.le_refl _, hs, rfl, .one (op_value hop hw ?_)⟩
  have key : (Op.equal t (.slice base len room) (.slice none 0 0)).run P w = .ok base.isNone w := by
    cases base with
    | none => obtain ⟨rfl, rfl⟩ := hb rfl; exact eqSl1 w 9999 hu
    | some ad => exact eqSl2 w 9999 ad len room hu
  obtain ⟨u, e1, e2⟩ := eqVal (β := β) (b := base.isNone) (op := .eql) (s := .sb base.isNone) (by cases base <;> rfl) (t := t) x (.const (.slice none 0 0)) (x := .slice base len room) (y := .slice none 0 0) (fun op' => by cases op' <;> rfl) key (by simp [eqGuard])
  have e2 : u = .bool base.isNone := e2
  subst e2
  simp only [Sem.run_bind] at e1
  simp only [execOp, ho, Sem.run_bind, hv]
  rw [show Act.eval ⟨tmps, dd⟩ (.const (.slice none 0 0)) = .slice none 0 0 from rfl, e1]
  rfl
/-- What is known of a slice, as an environment of one block tells it. -/
theorem froz_rel {K : Kn} {v : Value} {m sz : Nat} {g : Nat → Nat → SV} (h : Froz K v m sz g) : ∃ (off : Nat) (β : Env), Rel β (.sq 0 off 0 sz m .no) v ∧ (0 < m → ∃ b c tt fz, β 0 = some b ∧ K b = some (.cells c tt fz) ∧ ∀ i k, i < m → k < sz → ∃ u, c[off + i * sz + k]? = some u ∧ Rel Env.nil (g i k) u) := by
  obtain ⟨base, room, e1, e2, e3⟩ := h
  rcases Nat.eq_zero_or_pos m with h0 | h0
  · subst h0
    exact ⟨0, Env.nil, ⟨base, room, e1, e2, fun h => (by cases h), fun h => (by cases h), fun h => absurd h (Nat.lt_irrefl _)⟩, fun h => absurd h (Nat.lt_irrefl _)⟩
  · obtain ⟨h4, b, o, c, tt, fz, h5, h6, h7⟩ := e3 h0
    refine ⟨o, Env.nil.add 0 b 0, ⟨base, room, e1, e2, fun h => (by cases h), fun h => (by cases h), fun _ => ⟨h4, b, Env.add_same _ _ _ _, by rw [h5]; simp, fun h => (by cases h)⟩⟩, fun _ => ⟨b, c, tt, fz, Env.add_same _ _ _ _, h6, h7⟩⟩
theorem rel_froz {K : Kn} {β : Env} {off s sz n m : Nat} {ap : Ap} {u : Value} {g : Nat → Nat → SV} (hr : Rel β (.sq 0 off s sz n ap) u) (hs : s + n ≤ m)
    (h : 0 < m → ∃ b c tt fz, β 0 = some b ∧ K b = some (.cells c tt fz) ∧ ∀ i k, i < m → k < sz → ∃ u, c[off + i * sz + k]? = some u ∧ Rel Env.nil (g i k) u) : Froz K u n sz (fun i k => g (s + i) k) := by
  obtain ⟨base, room, e1, e2, _, _, e5⟩ := hr
  refine ⟨base, room, e1, e2, fun h0 => ?_⟩
  obtain ⟨g1, b, g2, g3, _⟩ := e5 h0
  obtain ⟨b', c, tt, fz, q1, q2, q3⟩ := h (by omega)
  rw [g2] at q1; injection q1 with q1; subst q1
  refine ⟨g1, b, off + s * sz, c, tt, fz, g3, q2, fun i k hi hk => ?_⟩
  obtain ⟨u, hu, hr⟩ := q3 (s + i) k (by omega) hk
  refine ⟨u, ?_, hr⟩
  rw [← hu]; congr 1
  rw [Nat.add_mul]; omega
/-- A part of a slice known for good. -/
theorem run_vslice {K : Kn} {v : Value} {m sz s' n' : Nat} {g : Nat → Nat → SV} (hF : Froz K v m sz g) {fn : FId} {n : Nat} {sl : Slots} {ops : Array Oper} {i0 : Nat} {o : Oper} {cur : List Oper} {tl : Option (List Nat)} {k : List SI} {rest : List SFr} {hp : Hp} {nx : Nat} {t : TypeId} {x : Operand} {lo hi mx : Option Operand} {cs0 c1 c2 c3 : List Prop} {vlo vhi vmx : Option SV}
    (ho : o.op = .slice t x lo hi mx) (hgd : guardIn ops sl o = some .run) (hx : evs sl x = some (cs0, .val v)) (hc0 : conj cs0) (h1 : evO sl lo = some (c1, vlo)) (hc1 : conj c1) (h2 : evO sl hi = some (c2, vhi)) (hc2 : conj c2) (h3 : evO sl mx = some (c3, vmx)) (hc3 : conj c3)
    (hsl : ∀ off, ∃ cs ap, sliceV P t (.sq 0 off 0 sz m .no) vlo vhi vmx = some (cs, .sq 0 off s' sz n' ap) ∧ conj cs) (hsn : s' + n' ≤ m) (i1 : ∀ s, vlo = some s → ∃ kk z, s = .int kk z) (i2 : ∀ s, vhi = some s → ∃ kk z, s = .int kk z) (i3 : ∀ s, vmx = some s → ∃ kk z, s = .int kk z)
    (hr : ∀ u, Froz K u n' sz (fun i k => g (s' + i) k) → ∃ sl', put o.dst (.val u) n sl = some sl' ∧ Run P ro B f R ⟨⟨fn, n, sl', .reg ops (i0 + 1) cur tl :: k⟩, rest, hp, nx⟩) :
    Run P ro B f R ⟨⟨fn, n, sl, .reg ops i0 (o :: cur) tl :: k⟩, rest, hp, nx⟩ := by
  refine run_opz (Z := Value) (G := fun u => Froz K u n' sz (fun i k => g (s' + i) k)) (sz := fun u => .val u) (hpz := fun _ => hp) (nxz := fun _ => nx) hr ?_
  intro β w tmps b k' fs r dd hn hsl' hlt hs hk hop
  have hw := guard_rel hgd hn hsl' hlt
  have hrho : Rho β sl (Act.eval ⟨tmps, dd⟩) := ⟨hsl', fun _ => rfl, fun _ => rfl⟩
  have hv : Act.eval ⟨tmps, dd⟩ x = v := (evs_rel hrho hx (all_conj hc0)).1
  obtain ⟨off, β1, q1, q2⟩ := froz_rel hF
  obtain ⟨cs, ap, q3, q4⟩ := hsl off
  have re : ∀ {y : Option Operand} {c : List Prop} {l : Option SV}, evO sl y = some (c, l) → conj c → (∀ s, l = some s → ∃ kk z, s = .int kk z) → RelO β1 l (y.map (Act.eval ⟨tmps, dd⟩)) := by
    intro y c l hy hc hl
    have := evO_rel hrho hy (all_conj hc)
    cases l with
    | none => exact this
    | some s =>
      obtain ⟨u, e1, e2⟩ := this
      obtain ⟨kk, z, rfl⟩ := hl s rfl
      exact ⟨u, e1, e2⟩
  obtain ⟨u, hu, hru⟩ := sliceV_run (P := P) (w := w) q3 (all_conj q4) q1 (re h1 hc1 i1) (re h2 hc2 i2) (re h3 hc3 i3)
  have hF' := rel_froz (K := K) hru hsn q2
  refine ⟨u, β, w, u, hF', Env.le_refl _, hs, ⟨rfl, ?_⟩, .one (op_value hop hw ?_)⟩
  · obtain ⟨base, room, e, _⟩ := hF'
    rw [e]; rfl
  · simp only [execOp, ho, Sem.run_bind, hv, hu]; rfl
def mclrArg (P : Program) (sl : Slots) : Op → Option (List Prop × Nat)
  | .call { callee := .builtin .clear, args := as, argTypes := ts } => match ts.toList, evList sl as.toList with
    | [t], some (cs, [.mp i]) => match P.underlying t with
      | some (.map _ _) => some (cs, i)
      | _ => none
    | _, _ => none
  | _ => none
/-- A map is cleared. -/
theorem run_mclr {q : IntKind} {h : Int → Bool} {E : MEl} {fn : FId} {n : Nat} {sl sl' : Slots} {ops : Array Oper} {i0 : Nat} {o : Oper} {cur : List Oper} {tl : Option (List Nat)} {k : List SI} {rest : List SFr} {hp hp' : Hp} {nx i : Nat} {cs0 : List Prop}
    (ho : mclrArg P sl o.op = some (cs0, i)) (hgd : guardIn ops sl o = some .run) (hc0 : conj cs0) (hi : hget i hp = some (.map q h E)) (hset' : hset i (.map q (fun _ => false) E) hp = some hp') (hput : put o.dst (.tup []) n sl = some sl')
    (hr : Run P ro B f R ⟨⟨fn, n, sl', .reg ops (i0 + 1) cur tl :: k⟩, rest, hp', nx⟩) :
    Run P ro B f R ⟨⟨fn, n, sl, .reg ops i0 (o :: cur) tl :: k⟩, rest, hp, nx⟩ := by
  refine run_opz (Z := Unit) (G := fun _ => True) (sz := fun _ => .tup []) (hpz := fun _ => hp') (nxz := fun _ => nx) (fun _ _ => ⟨sl', hput, hr⟩) ?_
  intro β w tmps b k' fs r dd hn hsl hlt hs hk hop
  have hw := guard_rel hgd hn hsl hlt
  have hrho : Rho β sl (Act.eval ⟨tmps, dd⟩) := ⟨hsl, fun _ => rfl, fun _ => rfl⟩
  generalize ho' : o.op = op at ho
  unfold mclrArg at ho
  split at ho <;> first | exact (none_ne ho).elim | skip
  rename_i as ts
  split at ho <;> first | exact (none_ne ho).elim | skip
  rename_i t cs1 i1 e1 e2
  split at ho <;> first | exact (none_ne ho).elim | skip
  rename_i kt et hu
  simp only [Option.some.injEq, Prod.mk.injEq] at ho
  obtain ⟨rfl, rfl⟩ := ho
  obtain ⟨v1, vs1, k1, ⟨bm, k2, rfl⟩, k3⟩ := evList_rel hrho e2 (all_conj hc0)
  have k3 : vs1 = [] := k3
  subst k3
  have ha : as.map (Act.eval ⟨tmps, dd⟩) = #[.map (some bm)] := by
    apply Array.toList_inj.1
    rw [Array.toList_map, k1]
  have ht : ts = #[t] := by apply Array.ext'; simpa using e1
  obtain ⟨b', ob, q1, q2, q3, q4, q5⟩ := hs.own _ _ hi trivial
  rw [k2] at q1; injection q1 with q1; subst q1
  obtain ⟨es, c, rfl, g⟩ := q4
  have hlt' : bm < w.heap.size := (Array.getElem?_eq_some_iff.1 q3).1
  have d2 : MRel β q (fun _ => false) E #[] c := ⟨MapKept.stamped_empty c, fun x hx => (by cases hx), fun a ha => (by cases ha)⟩
  refine ⟨(), β, { w with heap := w.heap.setIfInBounds bm (.map #[] c) }, .tuple #[], trivial, Env.le_refl _, ?_, ⟨[], rfl, rfl⟩, .one (op_value hop hw ?_)⟩
  · exact ⟨hs.toMem.set hset' ⟨hi, trivial⟩ k2 ⟨#[], c, rfl, d2⟩ ⟨trivial, q5.s⟩ (by simp [hlt']) (fun j hj => by simp [Ne.symm hj]) (by simp) rfl rfl rfl, hs.fresh⟩
  · simp only [execOp, ho', Sem.run_bind, resolve, Sem.run_pure, Result.andThen, invoke, builtin, ha, ht]
    simp [Builtin.clear_, run_underlying hu, MapKept.run_getObj_map q3, MapKept.run_setObj_map _ q3, Result.andThen]
/-- A loop that leaves blocks behind: what is known grows. -/
theorem run_invX {ι : Type} {B0 : Base} {K0 K : Kn} {M : Nat → Prop} {np : Nat} (hF : Fz B0 K0 M B K) (hpin : PinTo B np) (I : ι → Kn → Prop) (μ : ι → Nat) (slI : ι → Slots) (rsI : ι → List SFr) (hpI : ι → Hp) {fn : FId} {n : Nat} {td : List SI} {nx : Nat} (x0 : ι) (h0 : I x0 K)
    (step : ∀ (x : ι) (B' : Base) (K' : Kn), Fz B0 K0 M B' K' → PinTo B' np → I x K' → (∀ (y : ι) (B'' : Base) (K'' : Kn), Fz B0 K0 M B'' K'' → PinTo B'' np → I y K'' → μ y < μ x → Run P ro B'' f R ⟨⟨fn, n, slI y, td⟩, rsI y, hpI y, nx⟩) → Run P ro B' f R ⟨⟨fn, n, slI x, td⟩, rsI x, hpI x, nx⟩) :
    Run P ro B f R ⟨⟨fn, n, slI x0, td⟩, rsI x0, hpI x0, nx⟩ := by
  have main : ∀ (N : Nat) (x : ι) (B' : Base) (K' : Kn), μ x < N → Fz B0 K0 M B' K' → PinTo B' np → I x K' → Run P ro B' f R ⟨⟨fn, n, slI x, td⟩, rsI x, hpI x, nx⟩ := by
    intro N
    induction N with
    | zero => intro x B' K' h; exact absurd h (Nat.not_lt_zero _)
    | succ N ih => intro x B' K' h hF' hp' hI; exact step x B' K' hF' hp' hI fun y B'' K'' g1 g2 g3 g4 => ih y B'' K'' (by omega) g1 g2 g3
  exact main (μ x0 + 1) x0 B K (Nat.lt_succ_self _) hF hpin h0
end
end Sx
end
section
namespace Sx
open Go
section
variable {P : Program} {ro : Hp} {B : Base} {f : FuncId} {R : Ending → World → Prop}
/-- A block that is known from here on: what was its row is a value known for good. -/
theorem sat_freeze {K : Kn} (hB : B.ok) (hK : ∀ b o, K b = some o → B.D b = some o) {i off sz m m' cap : Nat} {ap : Ap} {g : Nat → Nat → SV} {ty : TypeId} {hp : Hp} {nx : Nat} {β : Env} {w : World} {u0 : Value}
    (hi : hget i hp = some (.row off m' cap sz g ty)) (hm : m ≤ m') (hcl : ∀ i k, i < m → k < sz → (g i k).closed = true) (hs : Sat β hp ro B nx w) (hu0 : Rel β (.sq i off 0 sz m ap) u0) :
    ∃ (B' : Base) (K' : Kn), Froz K' u0 m sz g ∧ Fz B K M0 B' K' ∧ B'.pin = B.pin ∧ B'.kd = B.kd ∧ Sat β (hdrop' [i] hp) ro B' nx w := by
  obtain ⟨base, room, e1, e2, e3, e4, e5⟩ := hu0
  have own' : ∀ j s, hget j (hdrop' [i] hp) = some s → hget j hp = some s ∧ j ≠ i := by
    intro j s hj
    rw [hdrop_get] at hj
    split at hj
    · cases hj
    · rename_i hn; exact ⟨hj, fun e => hn (by rw [e]; exact List.mem_singleton.2 rfl)⟩
  rcases Nat.eq_zero_or_pos m with h0 | h0
  · subst h0
    refine ⟨B, K, ⟨base, room, e1, e2, fun h => absurd h (Nat.lt_irrefl _)⟩, .refl hB hK, rfl, rfl, ⟨⟨fun j s hj hl => hs.own j s (own' j s hj).1 hl, fun j k s u hj hk => hs.apart j k s u (own' j s hj).1 (own' k u hk).1, hs.read, hs.old, hs.os, hs.tape, hs.output, hs.size, hs.pin⟩, hs.fresh⟩⟩
  · obtain ⟨b, o, h1, h2, h3, h4, h5⟩ := hs.own i _ hi (show 0 < m' by omega)
    obtain ⟨c, fz, tt, q1, q2, q3, q4, q5⟩ := h4
    obtain ⟨g1, b', g2, g3, _⟩ := e5 h0
    rw [h1] at g2; injection g2 with g2; subst g2
    have KB : ∀ x, (if x = b then some o else B.D x) = if x = b then some o else B.D x := fun _ => rfl
    let B' : Base := ⟨fun x => if x = b then some o else B.D x, w, B.pin, B.kd⟩
    let K' : Kn := fun x => if x = b then some o else K x
    have hBb : ∀ x o', B.D x = some o' → x ≠ b := by
      intro x o' hx e; subst e; rw [h2] at hx; cases hx
    have hF : Fz B K M0 B' K' := by
      refine ⟨fun x o' hx => ?_, rfl, Env.le_refl _, hs.os, hs.tape, hs.output, hs.size, fun x o' hx _ => ?_, fun x o' hx => ?_, fun x o' hx _ => ?_, fun x o' hx => ?_⟩
      · by_cases e : x = b
        · subst e; exact (Array.getElem?_eq_some_iff.1 h3).1
        · have hx : B.D x = some o' := by simpa [B', e] using hx
          exact Nat.lt_of_lt_of_le (hB x o' hx) hs.size
      · show (if x = b then some o else B.D x) = some o'
        rw [if_neg (hBb x o' hx)]; exact hx
      · show (if x = b then some o else B.D x) = some o'
        by_cases e : x = b
        · simpa [K', e] using hx
        · rw [if_neg e]; exact hK x o' (by simpa [K', e] using hx)
      · show (if x = b then some o else K x) = some o'
        rw [if_neg (hBb x o' (hK x o' hx))]; exact hx
      · by_cases e : x = b
        · subst e; exact .inr h2
        · left; have : K x = some o' := by simpa [K', e] using hx
          rw [this]; simp
    refine ⟨B', K', ⟨base, room, e1, e2, fun _ => ⟨g1, b, off, c, tt, fz, by rw [g3]; simp, by show (if b = b then some o else K b) = _; rw [if_pos rfl, q2], fun i k hi hk => ?_⟩⟩, hF, rfl, rfl, ?_⟩
    · obtain ⟨u, hu, hr⟩ := q5 i k (by omega) hk
      exact ⟨u, hu, Rel.closed _ _ (hcl i k hi hk) hr⟩
    · refine ⟨⟨fun j s hj hl => ?_, fun j k s u hj hk => hs.apart j k s u (own' j s hj).1 (own' k u hk).1, fun j s hj hl => ?_, fun x o' hx => ?_, rfl, rfl, rfl, Nat.le_refl _, hs.pin⟩, hs.fresh⟩
      · obtain ⟨hj, hne⟩ := own' j s hj
        obtain ⟨bj, oj, j1, j2, j3, j4, j5⟩ := hs.own j s hj hl
        refine ⟨bj, oj, j1, ?_, j3, j4, j5⟩
        show (if bj = b then some o else B.D bj) = none
        rw [if_neg, j2]
        intro e
        exact hs.apart j i s _ hj hi hl (show 0 < m' by omega) hne (by rw [j1, h1, e])
      · obtain ⟨bj, oj, j1, j2, j3⟩ := hs.read j s hj hl
        refine ⟨bj, oj, j1, ?_, j3⟩
        show (if bj = b then some o else B.D bj) = some oj
        rw [if_neg (hBb bj oj j2)]; exact j2
      · have hx : (if x = b then some o else B.D x) = some o' := hx
        by_cases e : x = b
        · subst e; simp at hx; subst hx; exact h3
        · rw [if_neg e] at hx; exact hs.old x o' hx
/-- The slice that a cell of a row holds is written no more. -/
theorem run_freezeC {K : Kn} (hB : B.ok) (hK : ∀ b o, K b = some o → B.D b = some o) (X j k : Nat) {L off sz m m' cap : Nat} {ap : Ap} {g : Nat → Nat → SV} {ty : TypeId} {offX nX capX szX : Nat} {F : Nat → Nat → SV} {tyX : TypeId} {fn : FId} {n : Nat} {sl : Slots} {td : List SI} {rest : List SFr} {hp hp1 : Hp} {hp2 : (Nat → Nat → SV) → Hp} {nx : Nat}
    (hX : hget X hp = some (.row offX nX capX szX F tyX)) (hF : F j k = .sq L off 0 sz m ap) (hj : j < nX) (hk : k < szX) (hi : hget L hp = some (.row off m' cap sz g ty)) (hne : Nat.beq X L = false) (hm : m ≤ m') (hcl : ∀ i k, i < m → k < sz → (g i k).closed = true) (hd : hdrop [L] hp some = some hp1)
    (hset2 : ∀ F', hset X (.row offX nX capX szX F' tyX) hp1 = some (hp2 F'))
    (hr : ∀ v B' K', Froz K' v m sz g → Fz B K M0 B' K' → B'.pin = B.pin → ∀ F', (∀ a b, a < nX → b < szX → F' a b = if a = j ∧ b = k then .val v else F a b) → Run P ro B' f R ⟨⟨fn, n, sl, td⟩, rest, hp2 F', nx⟩) : Run P ro B f R ⟨⟨fn, n, sl, td⟩, rest, hp, nx⟩ := by
  intro β w fr frs cs hf hfs hs hcs
  rw [hdrop_eq] at hd
  injection hd with hd; subst hd
  have hXL : X ≠ L := fun e => by subst e; simp at hne
  obtain ⟨bX, oX, x1, x2, x3, x4, x5⟩ := hs.own X _ hX (show 0 < nX by omega)
  obtain ⟨c, fz, tt, y1, y2, y3, y4, y5⟩ := x4
  obtain ⟨u, hu, hru⟩ := y5 j k hj hk
  rw [hF] at hru
  obtain ⟨B', K', g1, g2, g3, g4, g5⟩ := sat_freeze hB hK hi hm hcl hs hru
  have hone : u.oneCell' = true := by obtain ⟨base, room, e1, _⟩ := hru; rw [e1]; rfl
  let F' : Nat → Nat → SV := fun a b => if a = j ∧ b = k then .val u else F a b
  have hX' : hget X (hdrop' [L] hp) = some (.row offX nX capX szX F tyX) := by
    rw [hdrop_get, if_neg (by simpa using hXL)]; exact hX
  have old : ∀ i s, hget i (hp2 F') = some s → ∃ s0, hget i (hdrop' [L] hp) = some s0 ∧ (s.Live → s0.Live) ∧ ∀ o, (i = X → o = oX) → ORel β s0 o → ORel β s o := by
    intro i s hi'
    rw [hset_get (hset2 F') i] at hi'
    by_cases e : i = X
    · subst e
      rw [if_pos rfl, hX'] at hi'
      simp only [Option.map_some, Option.some.injEq] at hi'
      subst hi'
      refine ⟨_, hX', fun h => h, fun o ho _ => ?_⟩
      rw [ho rfl]
      refine ⟨c, fz, tt, y1, y2, y3, y4, fun a b ha hb => ?_⟩
      obtain ⟨u', hu', hr'⟩ := y5 a b ha hb
      by_cases e2 : a = j ∧ b = k
      · obtain ⟨rfl, rfl⟩ := e2
        refine ⟨u, hu, ?_⟩
        show Rel β (if a = a ∧ b = b then SV.val u else F a b) u
        rw [if_pos ⟨rfl, rfl⟩]
        exact ⟨rfl, hone⟩
      · refine ⟨u', hu', ?_⟩
        show Rel β (if a = j ∧ b = k then SV.val u else F a b) u'
        rw [if_neg e2]; exact hr'
    · rw [if_neg e] at hi'
      exact ⟨s, hi', fun h => h, fun o _ h => h⟩
  have hfin := hr u B' K' g1 g2 g3 F' (fun a b _ _ => rfl) β w fr frs cs hf hfs ?_ (by rw [g4]; exact hcs)
  · rw [g4] at hfin; exact hfin
  refine ⟨⟨fun i s hi' hl => ?_, fun i j s t hi' hj' hl hl' => ?_, g5.read, g5.old, g5.os, g5.tape, g5.output, g5.size, g5.pin⟩, g5.fresh⟩
  · obtain ⟨s0, h1, h2, h3⟩ := old i s hi'
    obtain ⟨b, o, k1, k2, k3, k4, k5⟩ := g5.own i s0 h1 (h2 hl)
    refine ⟨b, o, k1, k2, k3, h3 o (fun e => ?_) k4, k5⟩
    subst e
    rw [x1] at k1; injection k1 with k1; subst k1
    rw [x3] at k3; injection k3 with k3; exact k3.symm
  · obtain ⟨s0, h1, h2, _⟩ := old i s hi'
    obtain ⟨t0, h1', h2', _⟩ := old j t hj'
    exact g5.apart i j s0 t0 h1 h1' (h2 hl) (h2' hl')
end
section
variable {ι : Type} {P : Program} {ro : Hp} {B B' : Base} {f : FuncId} {K K' : Kn} {M : Nat → Prop} {ψ : ι → Kn → Prop} {out : ι → Out}
theorem run_retFX (hF : Fz B K M B' K') {np : Nat} (hpin : PinTo B' np) (z : ι) (hψ : ψ z K') (sg : List Nat) {g gn n : Nat} {gsl sl : Slots} {td gk : List SI} (htd : td = [] ∨ ∃ k, td = .code .ret :: k) {m : Gone} (hm : settled m = true) {hp : Hp} {nx : Nat} {cs0 cs ds : List Prop} {x v : SV} (hl : sg.length = (out z).nx) (h0 : resV P g gsl hp ro = some (cs0, x))
    (hv : resV P f sl hp ro = some (cs, v)) (hc0 : conj cs0) (hc : conj cs)
    (hk : retC nx sg np ro hp (out z) v = some ds) (hds : conj ds) : Run P ro B' f (HEndX B.pin B K M ro ψ out) ⟨⟨⟨g, none, [.late]⟩, gn, gsl, td⟩, [⟨⟨f, none, []⟩, n, sl, .gone m :: gk⟩], hp, nx⟩ := by
  unfold retC at hk
  cases hb : (dist nx sg (hkeys (out z).hp) && idTo nx sg np) with
  | false => rw [hb] at hk; cases hk
  | true =>
  rw [hb] at hk; simp only [cond_true] at hk
  simp only [Bool.and_eq_true] at hb
  split at hk <;> first | exact (none_ne hk).elim | skip
  rename_i a b c e1 e2 e3
  injection hk with hk; subst hk
  obtain ⟨h1, h2⟩ := conj_append hds
  obtain ⟨h2, h3⟩ := conj_append h2
  refine run_retX htd hm h0 hv hc0 hc (fun β w u hs hu => ?_) hpin.k
  obtain ⟨z', β', u', g1, g2, g3, g4, g5⟩ := hend_of (ψ := fun y => y = z) hpin z rfl sg hl e1 e2 hb.1 e3 hb.2 h1 h2 h3 β w u hs hu
  subst g1
  exact ⟨z', β', u', B', K', hψ, Env.le_trans hF.pin g2, g3, g4, hF, g5⟩
end
end Sx
end
section
namespace Sx
open Go
def rowC (g : Nat → SV) : (k c : Nat) → List SV → List SV
  | _, 0, r => r
  | k, c + 1, r => g k :: rowC g (k + 1) c r
def flatC (f : Nat → Nat → SV) (sz : Nat) : (e n : Nat) → List SV → List SV
  | _, 0, r => r
  | e, n + 1, r => rowC (f e) 0 sz (flatC f sz (e + 1) n r)
theorem rowC_get (g : Nat → SV) (r : List SV) : ∀ (c k j : Nat), j < c → (rowC g k c r)[j]? = some (g (k + j)) := by
  intro c
  induction c with
  | zero => intro k j h; omega
  | succ c ih =>
    intro k j h
    cases j with
    | zero => simp [rowC]
    | succ j => simp only [rowC, List.getElem?_cons_succ]; rw [ih (k + 1) j (by omega)]; congr 2; omega
theorem rowC_get' (g : Nat → SV) (r : List SV) : ∀ (c k j : Nat), (rowC g k c r)[c + j]? = r[j]? := by
  intro c
  induction c with
  | zero => intro k j; simp [rowC]
  | succ c ih => intro k j; rw [show c + 1 + j = (c + j) + 1 by omega]; simp only [rowC, List.getElem?_cons_succ]; exact ih (k + 1) j
theorem flatC_get (f : Nat → Nat → SV) (sz : Nat) (r : List SV) : ∀ (n e i k : Nat), i < n → k < sz → (flatC f sz e n r)[i * sz + k]? = some (f (e + i) k) := by
  intro n
  induction n with
  | zero => intro e i k h; omega
  | succ n ih =>
    intro e i k h hk
    cases i with
    | zero => simp only [flatC, Nat.zero_mul, Nat.zero_add]; rw [rowC_get _ _ _ _ _ hk]; simp
    | succ i =>
      simp only [flatC]
      rw [show (i + 1) * sz + k = sz + (i * sz + k) by rw [Nat.add_mul]; omega, rowC_get', ih (e + 1) i k (by omega) hk]
      congr 2; omega
theorem relL_row {β : Env} {l : List SV} {tl : List Value} (hl : RelL β l tl) (g : Nat → SV) : ∀ (c k : Nat) (us : List Value), us.length = c → (∀ j, j < c → ∃ u, us[j]? = some u ∧ Rel β (g (k + j)) u) → RelL β (rowC g k c l) (us ++ tl) := by
  intro c
  induction c with
  | zero => intro k us h _; have : us = [] := List.eq_nil_of_length_eq_zero h; subst this; exact hl
  | succ c ih =>
    intro k us h hu
    cases us with
    | nil => cases h
    | cons u us =>
      obtain ⟨u', e1, e2⟩ := hu 0 (by omega)
      simp only [List.getElem?_cons_zero, Option.some.injEq] at e1
      subst e1
      refine ⟨u, us ++ tl, rfl, e2, ih (k + 1) us (by simpa using h) fun j hj => ?_⟩
      obtain ⟨u', e1, e2⟩ := hu (j + 1) (by omega)
      refine ⟨u', by simpa using e1, ?_⟩
      rw [show k + 1 + j = k + (j + 1) by omega]; exact e2
theorem relL_flat {β : Env} {l : List SV} {tl : List Value} (hl : RelL β l tl) (f : Nat → Nat → SV) (sz : Nat) : ∀ (n e : Nat) (ms : List Value), ms.length = n * sz → (∀ i k, i < n → k < sz → ∃ u, ms[i * sz + k]? = some u ∧ Rel β (f (e + i) k) u) → RelL β (flatC f sz e n l) (ms ++ tl) := by
  intro n
  induction n with
  | zero => intro e ms h _; have : ms = [] := List.eq_nil_of_length_eq_zero (by simpa using h); subst this; exact hl
  | succ n ih =>
    intro e ms h hu
    have hlen : ms.length = sz + n * sz := by rw [h, Nat.add_mul]; omega
    rw [← List.take_append_drop sz ms, List.append_assoc]
    refine relL_row (ih (e + 1) (ms.drop sz) (by rw [List.length_drop]; omega) fun i k hi hk => ?_) _ sz 0 _ (by rw [List.length_take]; omega) fun j hj => ?_
    · obtain ⟨u, e1, e2⟩ := hu (i + 1) k (by omega) hk
      refine ⟨u, ?_, by rw [show e + 1 + i = e + (i + 1) by omega]; exact e2⟩
      rw [List.getElem?_drop, ← e1]; congr 1; rw [Nat.add_mul]; omega
    · obtain ⟨u, e1, e2⟩ := hu 0 j (by omega) hj
      refine ⟨u, ?_, by simpa using e2⟩
      rw [List.getElem?_take_of_lt hj]; simpa using e1
section
variable {P : Program} {ro : Hp} {B : Base} {f : FuncId} {R : Ending → World → Prop}
theorem run_flat (i : Nat) {pre post us : List SV} {n sz : Nat} {g : Nat → Nat → SV} {ty : TypeId} {hp hp' : Hp} {fn : FId} {nn : Nat} {sl : Slots} {td : List SI} {rest : List SFr} {nx : Nat} (hi : hget i hp = some (.arr pre n sz g post ty)) (hu : us = pre ++ flatC g sz 0 n post) (hset2 : hset i (.cells us ty) hp = some hp')
    (hr : Run P ro B f R ⟨⟨fn, nn, sl, td⟩, rest, hp', nx⟩) : Run P ro B f R ⟨⟨fn, nn, sl, td⟩, rest, hp, nx⟩ := by
  subst hu
  intro β w fr frs cs hf hfs hs hcs
  have old : ∀ j s, hget j hp' = some s → ∃ s0, hget j hp = some s0 ∧ (s.Live → s0.Live) ∧ ∀ o, ORel β s0 o → ORel β s o := by
    intro j s hj
    rw [hset_get hset2 j] at hj
    by_cases e : j = i
    · subst e
      rw [if_pos rfl, hi] at hj
      simp only [Option.map_some, Option.some.injEq] at hj
      subst hj
      refine ⟨_, hi, fun _ => trivial, fun o ho => ?_⟩
      obtain ⟨us, ms, vs, e, h1, h2, h3, hf⟩ := ho
      refine ⟨us ++ ms ++ vs, e, ?_⟩
      rw [List.append_assoc]
      exact h1.append (relL_flat h2 g sz n 0 ms h3 fun i k hi hk => by rw [Nat.zero_add]; exact hf i k hi hk)
    · rw [if_neg e] at hj
      exact ⟨s, hj, fun h => h, fun o h => h⟩
  refine hr β w fr frs cs hf hfs ⟨⟨fun j s hj hl => ?_, fun j k s t hj hk hl hl' => ?_, hs.read, hs.old, hs.os, hs.tape, hs.output, hs.size, hs.pin⟩, hs.fresh⟩ hcs
  · obtain ⟨s0, h1, h2, h3⟩ := old j s hj
    obtain ⟨b, o, k1, k2, k3, k4, k5⟩ := hs.own j s0 h1 (h2 hl)
    exact ⟨b, o, k1, k2, k3, h3 o k4, k5⟩
  · obtain ⟨s0, h1, h2, _⟩ := old j s hj
    obtain ⟨t0, h1', h2', _⟩ := old k t hk
    exact hs.apart j k s0 t0 h1 h1' (h2 hl) (h2' hl')
end
end Sx
end
section
namespace Sx
open Go
section
variable {P : Program} {ro : Hp} {B : Base} {f : FuncId} {R : Ending → World → Prop}
/-- The slice that a cell of a block holds is written no more. -/
theorem run_freezeB {K : Kn} (hB : B.ok) (hK : ∀ b o, K b = some o → B.D b = some o) (X k : Nat) {L off sz m m' cap : Nat} {ap : Ap} {g : Nat → Nat → SV} {ty : TypeId} {us : List SV} {tyX : TypeId} {fn : FId} {n : Nat} {sl : Slots} {td : List SI} {rest : List SFr} {hp hp1 : Hp} {hp2 : Value → Hp} {nx : Nat}
    (hX : hget X hp = some (.cells us tyX)) (hF : us[k]? = some (.sq L off 0 sz m ap)) (hi : hget L hp = some (.row off m' cap sz g ty)) (hne : Nat.beq X L = false) (hm : m ≤ m') (hcl : ∀ i k, i < m → k < sz → (g i k).closed = true) (hd : hdrop [L] hp some = some hp1)
    {us' : Value → List SV} (hus : ∀ v, us' v = us.set k (.val v)) (hset2 : ∀ v, hset X (.cells (us' v) tyX) hp1 = some (hp2 v))
    (hr : ∀ v B' K', Froz K' v m sz g → Fz B K M0 B' K' → B'.pin = B.pin → Run P ro B' f R ⟨⟨fn, n, sl, td⟩, rest, hp2 v, nx⟩) : Run P ro B f R ⟨⟨fn, n, sl, td⟩, rest, hp, nx⟩ := by
  intro β w fr frs cs hf hfs hs hcs
  rw [hdrop_eq] at hd
  injection hd with hd; subst hd
  have hXL : X ≠ L := fun e => by subst e; simp at hne
  obtain ⟨bX, oX, x1, x2, x3, x4, x5⟩ := hs.own X _ hX trivial
  obtain ⟨ws, y1, y2⟩ := x4
  obtain ⟨u, hu, hru⟩ := y2.get hF
  obtain ⟨B', K', g1, g2, g3, g4, g5⟩ := sat_freeze hB hK hi hm hcl hs hru
  have hone : u.oneCell' = true := by obtain ⟨base, room, e1, _⟩ := hru; rw [e1]; rfl
  have hX' : hget X (hdrop' [L] hp) = some (.cells us tyX) := by
    rw [hdrop_get, if_neg (by simpa using hXL)]; exact hX
  have old : ∀ i s, hget i (hp2 u) = some s → ∃ s0, hget i (hdrop' [L] hp) = some s0 ∧ (s.Live → s0.Live) ∧ ∀ o, (i = X → o = oX) → ORel β s0 o → ORel β s o := by
    intro i s hi'
    rw [hset_get (hset2 u) i] at hi'
    by_cases e : i = X
    · subst e
      rw [if_pos rfl, hX'] at hi'
      simp only [Option.map_some, Option.some.injEq] at hi'
      subst hi'
      refine ⟨_, hX', fun h => h, fun o ho _ => ?_⟩
      rw [ho rfl, hus u]
      refine ⟨ws, y1, RelL.mk (by rw [List.length_set]; exact y2.length) fun a s' v' h1 h2 => ?_⟩
      rw [List.getElem?_set] at h1
      by_cases e2 : k = a
      · subst e2
        have hk : k < us.length := (List.getElem?_eq_some_iff.1 hF).1
        rw [if_pos rfl, if_pos hk] at h1
        injection h1 with h1; subst h1
        rw [hu] at h2; injection h2 with h2; subst h2
        exact ⟨rfl, hone⟩
      · rw [if_neg e2] at h1
        obtain ⟨v2, q1, q2⟩ := y2.get h1
        rw [q1] at h2; injection h2 with h2; subst h2
        exact q2
    · rw [if_neg e] at hi'
      exact ⟨s, hi', fun h => h, fun o _ h => h⟩
  have hfin := hr u B' K' g1 g2 g3 β w fr frs cs hf hfs ?_ (by rw [g4]; exact hcs)
  · rw [g4] at hfin; exact hfin
  refine ⟨⟨fun i s hi' hl => ?_, fun i j s t hi' hj' hl hl' => ?_, g5.read, g5.old, g5.os, g5.tape, g5.output, g5.size, g5.pin⟩, g5.fresh⟩
  · obtain ⟨s0, h1, h2, h3⟩ := old i s hi'
    obtain ⟨b, o, k1, k2, k3, k4, k5⟩ := g5.own i s0 h1 (h2 hl)
    refine ⟨b, o, k1, k2, k3, h3 o (fun e => ?_) k4, k5⟩
    subst e
    rw [x1] at k1; injection k1 with k1; subst k1
    rw [x3] at k3; injection k3 with k3; exact k3.symm
  · obtain ⟨s0, h1, h2, _⟩ := old i s hi'
    obtain ⟨t0, h1', h2', _⟩ := old j t hj'
    exact g5.apart i j s0 t0 h1 h1' (h2 hl) (h2' hl')
end
/-- A contract that reads a slice in its first argument's first field, for a value known for good. -/
theorem hck_openA {P : Program} {K : Kn} {f : FuncId} {v : Value} {m sz : Nat} {g : Nat → Nat → SV} (hF : Froz K v m sz g) (hsz : 0 < sz) {x r : SV} {xs : List SV} (hr : r.closed = true)
    (h : ∀ off, HCK P K f (.agg [.sq 0 off 0 sz m .no, x] :: xs) [] [(0, .row off m m sz g anyTy)] 1 (fun _ : Unit => True) (fun _ => ⟨r, [], 1⟩)) :
    HCK P K f (.agg [.val v, x] :: xs) [] [] 0 (fun _ : Unit => True) (fun _ => ⟨r, [], 0⟩) := by
  intro B β w vs hB hK hl hs0
  obtain ⟨off, β1, hle, hrel, hs1⟩ := sat_open hK hF hsz hs0
  have hl1 : RelL β1 (.agg [.sq 0 off 0 sz m .no, x] :: xs) vs := by
    obtain ⟨u, us, rfl, hu, hr⟩ := hl
    refine ⟨u, us, rfl, ?_, RelL.mono hle _ _ hr⟩
    obtain ⟨us', e, u1, us1, rfl, hu1, hx⟩ := hu
    have hu1 : u1 = v ∧ _ := hu1
    exact ⟨_, e, u1, us1, rfl, by rw [hu1.1]; exact hrel, RelL.mono hle _ _ hx⟩
  have hs2 : Sat β1 [] [(0, .row off m m sz g anyTy)] ⟨B.D, B.w, β1, Kind.norm⟩ 1 w := ⟨⟨hs1.own, hs1.apart, hs1.read, hs1.old, hs1.os, hs1.tape, hs1.output, hs1.size, Env.le_refl _⟩, hs1.fresh⟩
  refine (h off ⟨B.D, B.w, β1, Kind.norm⟩ β1 w vs hB hK hl1 hs2).mono ?_
  rintro e w' ⟨_, β', u, _, h2, rfl, h4, h5⟩
  have hnone : ∀ i, β i = none := fun i => hs0.fresh i (Nat.zero_le _)
  refine ⟨(), β, u, trivial, Env.le_refl _, rfl, Rel.closed _ _ hr h4, ⟨⟨fun _ _ hi => (none_ne hi).elim, fun _ _ _ _ hi => (none_ne hi).elim, fun _ _ hi => (none_ne hi).elim, h5.old, h5.os, h5.tape, h5.output, h5.size, hs0.pin⟩, hs0.fresh⟩⟩
theorem hcx_of_hck {ι : Type} {P : Program} {K : Kn} {M : Nat → Prop} {f : FuncId} {xs : List SV} {hp ro : Hp} {nx : Nat} {ψ : ι → Prop} {out : ι → Out} (h : HCK P K f xs hp ro nx ψ out) : HCX P K M f xs hp ro nx (fun z K' => ψ z ∧ K' = K) out := by
  intro B β w vs hB hK hl hs
  refine (h B β w vs hB hK hl hs).mono ?_
  rintro e w' ⟨z, β', u, h1, h2, h3, h4, h5⟩
  exact ⟨z, β', u, B, K, ⟨h1, rfl⟩, h2, h3, h4, .refl hB hK, h5⟩
theorem hck_of_run {ι : Type} {P : Program} {K : Kn} {f : FuncId} {fn : Func} {c : Code} {xs : List SV} {hp ro : Hp} {nx : Nat} {ψ : ι → Prop} {out : ι → Out} (hfn : P.funcs[f]? = some fn) (hb : fn.body = some c)
    (h : ∀ B : Base, B.ok → (∀ b o, K b = some o → B.D b = some o) → PinTo B nx → Run P ro B f (HEnd B.pin B ro ψ out) ⟨⟨fid f, xs.length + (fn.ntmps - xs.length), enumFrom 0 xs, [.code c]⟩, [], hp, nx⟩) : HCK P K f xs hp ro nx ψ out := by
  intro B β w vs hB hK hl hs
  have hs1 : Sat β hp ro ⟨B.D, B.w, β, Kind.norm⟩ nx w := ⟨⟨hs.own, hs.apart, hs.read, hs.old, hs.os, hs.tape, hs.output, hs.size, Env.le_refl _⟩, hs.fresh⟩
  refine (calls_of_run hfn hb hl hs1 (h ⟨B.D, B.w, β, Kind.norm⟩ hB hK ⟨hs.fresh, rfl⟩) rfl).mono ?_
  rintro e w' ⟨z, β', u, h1, h2, h3, h4, h5⟩
  exact ⟨z, β', u, h1, h2, h3, h4, ⟨h5.own, h5.apart, h5.read, h5.old, h5.os, h5.tape, h5.output, h5.size, Env.le_trans hs.pin h2⟩, h5.fresh⟩
end Sx
end
section
namespace Sx
open Go
section
variable {P : Program} {ro : Hp} {B : Base} {f : FuncId} {R : Ending → World → Prop}
theorem run_openB {K : Kn} (hK : ∀ b o, K b = some o → B.D b = some o) (X k : Nat) {v : Value} {m sz : Nat} {g : Nat → Nat → SV} (hF : Froz K v m sz g) (hsz : 0 < sz) {us : List SV} {tyX : TypeId} {fn : FId} {n : Nat} {sl : Slots} {td : List SI} {rest : List SFr} {hp : Hp} {hp2 : Nat → Hp} {nx : Nat}
    (hX : hget X hp = some (.cells us tyX)) (hv : us[k]? = some (.val v)) {us' : Nat → List SV} (hus : ∀ off, us' off = us.set k (.sq nx off 0 sz m .no)) (hset2 : ∀ off, hset X (.cells (us' off) tyX) hp = some (hp2 off))
    (hr : ∀ off, Run P ((nx, .row off m m sz g anyTy) :: ro) B f R ⟨⟨fn, n, sl, td⟩, rest, hp2 off, nx + 1⟩) : Run P ro B f R ⟨⟨fn, n, sl, td⟩, rest, hp, nx⟩ := by
  intro β w fr frs cs hf hfs hs hcs
  obtain ⟨off, β', hle, hrel, hs'⟩ := sat_open hK hF hsz hs
  obtain ⟨bX, oX, x1, x2, x3, x4, x5⟩ := hs'.own X _ hX trivial
  obtain ⟨ws, y1, y2⟩ := x4
  obtain ⟨u, hu, hru⟩ := y2.get hv
  have hru : u = v ∧ _ := hru
  have old : ∀ i s, hget i (hp2 off) = some s → ∃ s0, hget i hp = some s0 ∧ (s.Live → s0.Live) ∧ ∀ o, (i = X → o = oX) → ORel β' s0 o → ORel β' s o := by
    intro i s hi'
    rw [hset_get (hset2 off) i] at hi'
    by_cases e : i = X
    · subst e
      rw [if_pos rfl, hX] at hi'
      simp only [Option.map_some, Option.some.injEq] at hi'
      subst hi'
      refine ⟨_, hX, fun h => h, fun o ho _ => ?_⟩
      rw [ho rfl, hus off]
      refine ⟨ws, y1, RelL.mk (by rw [List.length_set]; exact y2.length) fun a s' v' h1 h2 => ?_⟩
      rw [List.getElem?_set] at h1
      by_cases e2 : k = a
      · subst e2
        have hk : k < us.length := (List.getElem?_eq_some_iff.1 hv).1
        rw [if_pos rfl, if_pos hk] at h1
        injection h1 with h1; subst h1
        rw [hu] at h2; injection h2 with h2; subst h2
        rw [hru.1]; exact hrel
      · rw [if_neg e2] at h1
        obtain ⟨v2, q1, q2⟩ := y2.get h1
        rw [q1] at h2; injection h2 with h2; subst h2
        exact q2
    · rw [if_neg e] at hi'
      exact ⟨s, hi', fun h => h, fun o _ h => h⟩
  refine hr off β' w fr frs cs (hf.mono hle) (hfs.mono hle) ⟨⟨fun i s hi' hl => ?_, fun i j s t hi' hj' hl hl' => ?_, hs'.read, hs'.old, hs'.os, hs'.tape, hs'.output, hs'.size, hs'.pin⟩, hs'.fresh⟩ hcs
  · obtain ⟨s0, h1, h2, h3⟩ := old i s hi'
    obtain ⟨b, o, k1, k2, k3, k4, k5⟩ := hs'.own i s0 h1 (h2 hl)
    refine ⟨b, o, k1, k2, k3, h3 o (fun e => ?_) k4, k5⟩
    subst e
    rw [x1] at k1; injection k1 with k1; subst k1
    rw [x3] at k3; injection k3 with k3; exact k3.symm
  · obtain ⟨s0, h1, h2, _⟩ := old i s hi'
    obtain ⟨t0, h1', h2', _⟩ := old j t hj'
    exact hs'.apart i j s0 t0 h1 h1' (h2 hl) (h2' hl')
end
end Sx
end
