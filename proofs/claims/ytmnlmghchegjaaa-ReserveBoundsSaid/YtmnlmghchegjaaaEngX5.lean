/- The symbolic machine, part 5: what its steps give, proved against the model. Conditions: as each theorem says. -/
import Derived.Test.YtmnlmghchegjaaaEngX4
import Derived.Laws.IdiomCopy
set_option linter.unusedSimpArgs false
set_option linter.unusedVariables false
section
namespace Sx
open Go

/-- The truth value that was put last, decided. -/
def decTop : Cfg → Cfg
  | ⟨⟨fn, n, (d, .sb b) :: sl, td⟩, rest, hp, nx⟩ => match b with
    | true => ⟨⟨fn, n, (d, .tt) :: sl, td⟩, rest, hp, nx⟩
    | false => ⟨⟨fn, n, (d, .ff) :: sl, td⟩, rest, hp, nx⟩
  | c => c
/-- All truth values and guards of the top frame, decided. -/
def decL : Slots → Option Slots
  | [] => some []
  | (d, .sb b) :: r => match decL r with
    | some r' => match b with
      | true => some ((d, .tt) :: r')
      | false => some ((d, .ff) :: r')
    | none => none
  | (d, .cnd g v) :: r => match decL r with
    | some r' => match g with
      | true => match v with
        | .sb b => match b with
          | true => some ((d, .tt) :: r')
          | false => some ((d, .ff) :: r')
        | v => some ((d, v) :: r')
      | false => some ((d, .cnd false .und) :: r')
    | none => none
  | x :: r => match decL r with
    | some r' => some (x :: r')
    | none => none
def decAll : Cfg → Cfg
  | ⟨⟨fn, n, sl, td⟩, rest, hp, nx⟩ => match decL sl with
    | some sl' => ⟨⟨fn, n, sl', td⟩, rest, hp, nx⟩
    | none => ⟨⟨fn, n, sl, td⟩, rest, hp, nx⟩
def isDrawn : Cfg → Bool
  | ⟨⟨_, _, _, .code (.region _ _ true) :: _⟩, _, _, _⟩ => true
  | _ => false
def execX (P : Program) (M : Mode) (ro : Hp) : Nat → List Prop → Cfg → List Prop × Cfg
  | 0, acc, c => (acc, c)
  | n + 1, acc, c => match stepD P M ro c with
    | none => (acc, c)
    | some (cs, c') => match pushAll cs acc with
      | [] => match isDrawn c with
        | true => execX P M ro n [] (decAll c')
        | false => execX P M ro n [] (decTop c')
      | p :: ps => match isDrawn c with
        | true => execX P M ro n (p :: ps) (decAll c')
        | false => execX P M ro n (p :: ps) (decTop c')
/-- Whether the slot that was put last is one of these. -/
def atS (S : List (Nat × Nat)) : Cfg → Bool
  | ⟨⟨fn, _, (d, .sb _) :: _, _⟩, _, _, _⟩ => S.any fun p => Nat.beq p.1 fn.f && Nat.beq p.2 d
  | _ => false
/-- The same, up to a truth value in one of the slots S. -/
def execY (P : Program) (M : Mode) (ro : Hp) (S : List (Nat × Nat)) : Nat → List Prop → Cfg → List Prop × Cfg
  | 0, acc, c => (acc, c)
  | n + 1, acc, c => match stepD P M ro c with
    | none => (acc, c)
    | some (cs, c') => match pushAll cs acc with
      | [] => match atS S c' with
        | true => ([], c')
        | false => execY P M ro S n [] (decTop c')
      | p :: ps => match atS S c' with
        | true => (p :: ps, c')
        | false => execY P M ro S n (p :: ps) (decTop c')
section
variable {P : Program} {M : Mode} {ro : Hp} {B : Base} {f : FuncId} {R : Ending → World → Prop}
theorem run_dec {c : Cfg} (h : Run P ro B f R (decTop c)) : Run P ro B f R c := by
  unfold decTop at h
  split at h
  · rename_i fn n d b sl td rest hp nx
    have key : ∀ v : SV, (∀ β u, Rel β (.sb b) u → Rel β v u) → Run P ro B f R ⟨⟨fn, n, (d, v) :: sl, td⟩, rest, hp, nx⟩ → Run P ro B f R ⟨⟨fn, n, (d, .sb b) :: sl, td⟩, rest, hp, nx⟩ := by
      intro v hv hr
      refine run_slots (fun β g hs t u hu => ?_) hr
      simp only [look] at hu ⊢
      cases hb : Nat.beq t d with
      | true =>
        rw [hb] at hu; simp only [cond_true, Option.some.injEq] at hu
        subst hu
        exact ⟨hv β _ (hs t (.sb b) (by simp only [look, hb]; rfl)), _, rfl⟩
      | false =>
        rw [hb] at hu; simp only [cond_false] at hu
        exact ⟨hs t u (by simp only [look, hb]; exact hu), u, hu⟩
    cases b with
    | true => exact key .tt (fun _ _ h => h) h
    | false => exact key .ff (fun _ _ h => h) h
  · exact h
theorem decL_at {β : Env} {x : Value} : ∀ {sl sl' : Slots}, decL sl = some sl' → ∀ t v, look t sl' = some v → (∀ w, look t sl = some w → Rel β w x) → Rel β v x ∧ ∃ u, look t sl = some u := by
  intro sl
  induction sl with
  | nil => intro sl' h t v hv hs; injection h with h; subst h; cases hv
  | cons y r ih =>
    intro sl' h t v hv hs
    obtain ⟨d, s⟩ := y
    have key : ∀ (s' : SV) (r' : Slots), decL r = some r' → (∀ u, Rel β s u → Rel β s' u) → sl' = (d, s') :: r' → Rel β v x ∧ ∃ u, look t ((d, s) :: r) = some u := by
      intro s' r' hr hss e
      subst e
      simp only [look] at hv hs ⊢
      cases hb : Nat.beq t d with
      | true =>
        rw [hb] at hv; simp only [cond_true, Option.some.injEq] at hv
        subst hv
        exact ⟨hss _ (hs s (by rw [hb]; rfl)), s, rfl⟩
      | false =>
        rw [hb] at hv hs; simp only [cond_false] at hv hs ⊢
        exact ih hr t v hv hs
    unfold decL at h
    split at h
    · rename_i e; cases e
    · rename_i d' b r0 e
      injection e with e1 e2
      simp only [Prod.mk.injEq] at e1
      obtain ⟨rfl, rfl⟩ := e1
      subst e2
      split at h <;> first | exact (none_ne h).elim | skip
      rename_i r' hr
      cases b <;> (injection h with h; exact key _ r' hr (by intro u hu; exact hu) h.symm)
    · rename_i d' g' v' r0 e
      injection e with e1 e2
      simp only [Prod.mk.injEq] at e1
      obtain ⟨rfl, rfl⟩ := e1
      subst e2
      split at h <;> first | exact (none_ne h).elim | skip
      rename_i r' hr
      cases g' with
      | true =>
        simp only at h
        split at h
        · rename_i b
          cases b <;> (injection h with h; exact key _ r' hr (by intro u hu; exact hu.1 rfl) h.symm)
        · injection h with h
          exact key _ r' hr (by intro u hu; exact hu.1 rfl) h.symm
      | false =>
        injection h with h
        exact key _ r' hr (by intro u hu; exact ⟨fun e => Bool.noConfusion e, fun _ => hu.2 rfl⟩) h.symm
    · rename_i x' r0 _ _ e
      injection e with e1 e2
      subst e1 e2
      split at h <;> first | exact (none_ne h).elim | skip
      rename_i r' hr
      injection h with h
      exact key _ r' hr (by intro u hu; exact hu) h.symm
theorem decL_rel {β : Env} {g : Nat → Value} {sl sl' : Slots} (h : decL sl = some sl') (hs : ∀ t v, look t sl = some v → Rel β v (g t)) (t : Nat) (v : SV) (hv : look t sl' = some v) : Rel β v (g t) ∧ ∃ u, look t sl = some u :=
  decL_at h t v hv (fun w hw => hs t w hw)
theorem run_decA {c : Cfg} (h : Run P ro B f R (decAll c)) : Run P ro B f R c := by
  unfold decAll at h
  split at h
  rename_i fn n sl td rest hp nx
  split at h
  · rename_i sl' e
    exact run_slots (fun β g hs t v hv => decL_rel e hs t v hv) h
  · exact h
theorem execX_acc : ∀ {n : Nat} {acc : List Prop} {c : Cfg} {p : Prop}, p ∈ acc → p ∈ (execX P M ro n acc c).1
  | 0, acc, c, p, h => h
  | n + 1, acc, c, p, h => by
    simp only [execX]
    split
    · exact h
    · rename_i cs c' _
      have hm : p ∈ pushAll cs acc := pushAll_mem (.inr h)
      split
      · rename_i e; rw [e] at hm; cases hm
      · rename_i q qs e
        rw [e] at hm
        split <;> exact execX_acc hm
theorem execX_run (hstep : ∀ {c c' : Cfg} {cs : List Prop}, stepD P M ro c = some (cs, c') → All cs → Run P ro B f R c' → Run P ro B f R c) :
    ∀ {n : Nat} {acc cs : List Prop} {c c' : Cfg}, execX P M ro n acc c = (cs, c') → All cs → Run P ro B f R c' → Run P ro B f R c
  | 0, acc, cs, c, c', h, hc, hr => by simp only [execX, Prod.mk.injEq] at h; obtain ⟨rfl, rfl⟩ := h; exact hr
  | n + 1, acc, cs, c, c', h, hc, hr => by
    have h' := h
    simp only [execX] at h
    split at h
    · simp only [Prod.mk.injEq] at h; obtain ⟨rfl, rfl⟩ := h; exact hr
    · rename_i ds c1 e1
      have own : All ds := by
        intro p hp
        apply hc
        have hm : p ∈ pushAll ds acc := pushAll_mem (.inl hp)
        split at h
        · rename_i e; rw [e] at hm; cases hm
        · rename_i q qs e
          rw [e] at hm
          split at h
          · have := execX_acc (P := P) (M := M) (ro := ro) (n := n) (c := decAll c1) hm
            rw [h] at this; exact this
          · have := execX_acc (P := P) (M := M) (ro := ro) (n := n) (c := decTop c1) hm
            rw [h] at this; exact this
      refine hstep e1 own ?_
      split at h
      · split at h
        · exact run_decA (execX_run hstep h hc hr)
        · exact run_dec (execX_run hstep h hc hr)
      · split at h
        · exact run_decA (execX_run hstep h hc hr)
        · exact run_dec (execX_run hstep h hc hr)
theorem run_goX (hmix : P.follows .mixedOrders = true) (hP : Named P) (hB : B.ok) (hM : SumOk P M.sum) (m : Nat) {cs : List Prop} {c c' : Cfg} (h : execX P M ro m [] c = (cs, c')) (hc : conj cs)
    (hr : Run P ro B f R c') : Run P ro B f R c :=
  execX_run (fun h hc hr => stepD_run hmix hP hB hM h hc hr) h (all_conj hc) hr
theorem execY_acc {S : List (Nat × Nat)} : ∀ {n : Nat} {acc : List Prop} {c : Cfg} {p : Prop}, p ∈ acc → p ∈ (execY P M ro S n acc c).1
  | 0, acc, c, p, h => h
  | n + 1, acc, c, p, h => by
    simp only [execY]
    split
    · exact h
    · rename_i cs c' _
      have hm : p ∈ pushAll cs acc := pushAll_mem (.inr h)
      split
      · rename_i e; rw [e] at hm; cases hm
      · rename_i q qs e
        rw [e] at hm
        split
        · exact hm
        · exact execY_acc hm
theorem execY_run {S : List (Nat × Nat)} (hstep : ∀ {c c' : Cfg} {cs : List Prop}, stepD P M ro c = some (cs, c') → All cs → Run P ro B f R c' → Run P ro B f R c) :
    ∀ {n : Nat} {acc cs : List Prop} {c c' : Cfg}, execY P M ro S n acc c = (cs, c') → All cs → Run P ro B f R c' → Run P ro B f R c
  | 0, acc, cs, c, c', h, hc, hr => by simp only [execY, Prod.mk.injEq] at h; obtain ⟨rfl, rfl⟩ := h; exact hr
  | n + 1, acc, cs, c, c', h, hc, hr => by
    have h' := h
    simp only [execY] at h
    split at h
    · simp only [Prod.mk.injEq] at h; obtain ⟨rfl, rfl⟩ := h; exact hr
    · rename_i ds c1 e1
      have own : All ds := by
        intro p hp
        apply hc
        have hm : p ∈ pushAll ds acc := pushAll_mem (.inl hp)
        split at h
        · rename_i e; rw [e] at hm; cases hm
        · rename_i q qs e
          rw [e] at hm
          split at h
          · simp only [Prod.mk.injEq] at h; obtain ⟨rfl, rfl⟩ := h; exact hm
          · have := execY_acc (P := P) (M := M) (ro := ro) (S := S) (n := n) (c := decTop c1) hm
            rw [h] at this; exact this
      refine hstep e1 own ?_
      split at h
      · split at h
        · simp only [Prod.mk.injEq] at h; obtain ⟨rfl, rfl⟩ := h; exact hr
        · exact run_dec (execY_run hstep h hc hr)
      · split at h
        · simp only [Prod.mk.injEq] at h; obtain ⟨rfl, rfl⟩ := h; exact hr
        · exact run_dec (execY_run hstep h hc hr)
theorem run_goY (hmix : P.follows .mixedOrders = true) (hP : Named P) (hB : B.ok) (hM : SumOk P M.sum) (S : List (Nat × Nat)) (m : Nat) {cs : List Prop} {c c' : Cfg} (h : execY P M ro S m [] c = (cs, c')) (hc : conj cs)
    (hr : Run P ro B f R c') : Run P ro B f R c :=
  execY_run (fun h hc hr => stepD_run hmix hP hB hM h hc hr) h (all_conj hc) hr
theorem run_tt {fn : FId} {n d : Nat} {b : Bool} {sl : Slots} {td : List SI} {rest : List SFr} {hp : Hp} {nx : Nat} (h : b = true) (hr : Run P ro B f R ⟨⟨fn, n, (d, .tt) :: sl, td⟩, rest, hp, nx⟩) : Run P ro B f R ⟨⟨fn, n, (d, .sb b) :: sl, td⟩, rest, hp, nx⟩ := by
  subst h; exact run_dec hr
theorem run_ff {fn : FId} {n d : Nat} {b : Bool} {sl : Slots} {td : List SI} {rest : List SFr} {hp : Hp} {nx : Nat} (h : b = false) (hr : Run P ro B f R ⟨⟨fn, n, (d, .ff) :: sl, td⟩, rest, hp, nx⟩) : Run P ro B f R ⟨⟨fn, n, (d, .sb b) :: sl, td⟩, rest, hp, nx⟩ := by
  subst h; exact run_dec hr
end
end Sx
end
section
namespace Sx
open Go
def mlenArg (P : Program) (sl : Slots) : Op → Option (List Prop × Nat)
  | .call { callee := .builtin .len, args := as, argTypes := ts } => match ts.toList, evList sl as.toList with
    | [t], some (cs, [.mp i]) => match P.underlying t with
      | some (.map _ _) => some (cs, i)
      | _ => none
    | _, _ => none
  | _ => none
def keyOf (v : Value) : Int :=
  match v with
  | .int _ a => a
  | _ => 0
theorem mrel_size {β : Env} {q : IntKind} {h : Int → Bool} {E : MEl} {es : Array MapEntry} {c : Nat} (g : MRel β q h E es c) {L : List Int} (hL : L.Nodup) (hm : ∀ a, h a = true ↔ a ∈ L) : es.size = L.length := by
  have h1 : (es.toList.map fun x => keyOf x.key).Nodup := by
    have := g.st.2.2
    rw [List.nodup_iff_pairwise_ne, List.pairwise_map] at this ⊢
    refine this.imp_of_mem fun {a b} ha hb hne e => hne ?_
    obtain ⟨x, hx, _⟩ := g.ent a ha
    obtain ⟨y, hy, _⟩ := g.ent b hb
    rw [hx, hy] at e ⊢
    have e : x = y := e
    rw [e]
  have h2 : ∀ a, a ∈ (es.toList.map fun x => keyOf x.key) ↔ a ∈ L := by
    intro a
    rw [← hm, List.mem_map]
    constructor
    · rintro ⟨x, hx, rfl⟩
      obtain ⟨y, hy, hh, _⟩ := g.ent x hx
      rw [hy]; exact hh
    · intro ha
      obtain ⟨x, hx, hk⟩ := g.has a ha
      exact ⟨x, hx, by rw [hk]; rfl⟩
  have := ((List.perm_ext_iff_of_nodup h1 hL).2 h2).length_eq
  simpa using this
section
variable {P : Program} {ro : Hp} {B : Base} {f : FuncId} {R : Ending → World → Prop}
theorem run_mlen (L : List Int) (hL : L.Nodup) {q : IntKind} {h : Int → Bool} {E : MEl} (hm : ∀ a, h a = true ↔ a ∈ L) {fn : FId} {n : Nat} {sl sl' : Slots} {ops : Array Oper} {i0 : Nat} {o : Oper} {cur : List Oper} {tl : Option (List Nat)} {k : List SI} {rest : List SFr} {hp : Hp} {nx i : Nat} {cs0 : List Prop}
    (ho : mlenArg P sl o.op = some (cs0, i)) (hgd : guardIn ops sl o = some .run) (hc0 : conj cs0) (hi : hget i hp = some (.map q h E)) (hput : put o.dst (.int .i64 L.length) n sl = some sl')
    (hr : Run P ro B f R ⟨⟨fn, n, sl', .reg ops (i0 + 1) cur tl :: k⟩, rest, hp, nx⟩) :
    Run P ro B f R ⟨⟨fn, n, sl, .reg ops i0 (o :: cur) tl :: k⟩, rest, hp, nx⟩ := by
  refine run_opz (Z := Unit) (G := fun _ => True) (sz := fun _ => .int .i64 L.length) (hpz := fun _ => hp) (nxz := fun _ => nx) (fun _ _ => ⟨sl', hput, hr⟩) ?_
  intro β w tmps b k' fs r dd hn hsl hlt hs hk hop
  have hw := guard_rel hgd hn hsl hlt
  have hrho : Rho β sl (Act.eval ⟨tmps, dd⟩) := ⟨hsl, fun _ => rfl, fun _ => rfl⟩
  generalize ho' : o.op = op at ho
  unfold mlenArg at ho
  split at ho <;> first | exact (none_ne ho).elim | skip
  rename_i as ts
  split at ho <;> first | exact (none_ne ho).elim | skip
  rename_i t cs1 i1 e1 e2
  split at ho <;> first | exact (none_ne ho).elim | skip
  rename_i kt et hu
  simp only [Option.some.injEq, Prod.mk.injEq] at ho
  obtain ⟨rfl, rfl⟩ := ho
  obtain ⟨v1, vs1, k1, ⟨bm, k2, rfl⟩, k3⟩ := evList_rel hrho e2 (all_conj hc0)
  have k3 : vs1 = [] := k3
  subst k3
  have ha : as.map (Act.eval ⟨tmps, dd⟩) = #[.map (some bm)] := by
    apply Array.toList_inj.1
    rw [Array.toList_map, k1]
  have ht : ts = #[t] := by apply Array.ext'; simpa using e1
  obtain ⟨b', ob, q1, q2, q3, q4, q5⟩ := hs.own _ _ hi trivial
  rw [k2] at q1; injection q1 with q1; subst q1
  obtain ⟨es, c, rfl, g⟩ := q4
  have hsz := mrel_size g hL hm
  refine ⟨(), β, w, .int .i64 L.length, trivial, Env.le_refl _, hs, rfl, .one (op_value hop hw ?_)⟩
  simp only [execOp, ho', Sem.run_bind, resolve, Sem.run_pure, Result.andThen, invoke, builtin, ha, ht]
  simp only [Builtin.len_, Sem.run_bind, run_underlying hu, Result.andThen, List.getElem?_toArray, List.getElem?_cons_zero, MapKept.run_getObj_map q3, Sem.run_pure, hsz]
  rfl
/-- The same, the number told. -/
theorem run_mlenN (L : List Int) (N : Int) (hN : (L.length : Int) = N) (hL : L.Nodup) {q : IntKind} {h : Int → Bool} {E : MEl} (hm : ∀ a, h a = true ↔ a ∈ L) {fn : FId} {n : Nat} {sl sl' : Slots} {ops : Array Oper} {i0 : Nat} {o : Oper} {cur : List Oper} {tl : Option (List Nat)} {k : List SI} {rest : List SFr} {hp : Hp} {nx i : Nat} {cs0 : List Prop}
    (ho : mlenArg P sl o.op = some (cs0, i)) (hgd : guardIn ops sl o = some .run) (hc0 : conj cs0) (hi : hget i hp = some (.map q h E)) (hput : put o.dst (.int .i64 N) n sl = some sl')
    (hr : Run P ro B f R ⟨⟨fn, n, sl', .reg ops (i0 + 1) cur tl :: k⟩, rest, hp, nx⟩) :
    Run P ro B f R ⟨⟨fn, n, sl, .reg ops i0 (o :: cur) tl :: k⟩, rest, hp, nx⟩ := by
  subst hN
  exact run_mlen L hL hm ho hgd hc0 hi hput hr
end
/-- A contract that asks less of a block that is only read. -/
theorem hc_lessR {ι : Type} {P : Program} {f : FuncId} {xs : List SV} {hp ro ro' : Hp} {nx : Nat} {ψ : ι → Prop} {out : ι → Out} (h : HC P f xs hp ro' nx ψ out)
    (hk : ∀ i s', hget i ro' = some s' → s'.Live → ∃ s, hget i ro = some s ∧ s.Live ∧ ∀ β o, ORel β s o → ORel β s' o) : HC P f xs hp ro nx ψ out := by
  intro B β w vs hB hl hs
  have hs' : Sat β hp ro' B nx w := ⟨⟨hs.own, hs.apart, fun i s' hi hl => by
    obtain ⟨s, h1, h2, h3⟩ := hk i s' hi hl
    obtain ⟨b, o, g1, g2, g3⟩ := hs.read i s h1 h2
    exact ⟨b, o, g1, g2, h3 _ _ g3⟩, hs.old, hs.os, hs.tape, hs.output, hs.size, hs.pin⟩, hs.fresh⟩
  refine (h B β w vs hB hl hs').mono ?_
  rintro e w' ⟨z, β', u, h1, h2, h3, h4, h5⟩
  exact ⟨z, β', u, h1, h2, h3, h4, ⟨⟨h5.own, h5.apart, fun i s hi hl => by
    obtain ⟨b, o, g1, g2, g3⟩ := hs.read i s hi hl
    exact ⟨b, o, h2 _ _ g1, g2, g3.mono h2⟩, h5.old, h5.os, h5.tape, h5.output, h5.size, h5.pin⟩, h5.fresh⟩⟩
theorem cells_less {vs' vs : List SV} {ty : TypeId} {cs : List Prop} (h : eqL vs' vs = some cs) (hc : conj cs) : ∀ i s', hget i [(0, SO.cells vs' ty)] = some s' → s'.Live → ∃ s, hget i [(0, SO.cells vs ty)] = some s ∧ s.Live ∧ ∀ β o, ORel β s o → ORel β s' o := by
  intro i s' hi _
  simp only [hget] at hi ⊢
  cases hb : Nat.beq i 0 with
  | true =>
    rw [hb] at hi; simp only [cond_true, Option.some.injEq] at hi
    subst hi
    refine ⟨_, rfl, trivial, fun β o ho => ?_⟩
    obtain ⟨us, e, hl⟩ := ho
    exact ⟨us, e, eqL_less _ _ _ h (all_conj hc) β us hl⟩
  | false => rw [hb] at hi; cases hi
end Sx
end
section
namespace Sx
open Go
section
variable {P : Program} {ro : Hp} {B : Base} {f : FuncId} {R : Ending → World → Prop}
/-- A row whose elements from s to s + m are those of g from s' on. -/
def cpyF (f : Nat → Nat → SV) (s m : Nat) (g : Nat → Nat → SV) (s' : Nat) : Nat → Nat → SV := fun i k => if s ≤ i ∧ i < s + m then g (s' + (i - s)) k else f i k
structure CpyA where
  i : Nat
  off : Nat
  s : Nat
  m : Nat
  j : Nat
  off2 : Nat
  s2 : Nat
  m2 : Nat
def cpyArg (P : Program) (sl : Slots) : Op → Option (List Prop × CpyA)
  | .call { callee := .builtin .copy, args := as, argTypes := ts } => match ts.toList, evList sl as.toList with
    | [t, _], some (cs, [.sq i off s 1 m _, .sq j off2 s2 1 m2 _]) => match P.underlying t with
      | some (.slice e) => match sizeIn P e with
        | some 1 => some (cs, ⟨i, off, s, m, j, off2, s2, m2⟩)
        | _ => none
      | _ => none
    | _, _ => none
  | _ => none
theorem run_rcopy {fn : FId} {n : Nat} {sl sl' : Slots} {ops : Array Oper} {i0 : Nat} {o : Oper} {cur : List Oper} {tl : Option (List Nat)} {k : List SI} {rest : List SFr} {hp hp' : Hp} {nx N cap N2 cap2 : Nat} {f0 g : Nat → Nat → SV} {ty ty2 : TypeId} {c : CpyA} {cs0 : List Prop} (q : Nat)
    (ho : cpyArg P sl o.op = some (cs0, c)) (hgd : guardIn ops sl o = some .run) (hc0 : conj cs0) (hi : hget c.i hp = some (.row c.off N cap 1 f0 ty)) (hj : hget c.j hp = some (.row c.off2 N2 cap2 1 g ty2)) (hij : c.i ≠ c.j)
    (hq : q = Nat.min c.m2 c.m) (h0 : 0 < q) (hsm : c.s + c.m ≤ N) (hsm2 : c.s2 + c.m2 ≤ N2) (hint : ∀ a, a < q → ∃ k z, g (c.s2 + a) 0 = .int k z)
    (hset' : hset c.i (.row c.off N cap 1 (cpyF f0 c.s q g c.s2) ty) hp = some hp') (hput : put o.dst (.int .i64 q) n sl = some sl')
    (hr : Run P ro B f R ⟨⟨fn, n, sl', .reg ops (i0 + 1) cur tl :: k⟩, rest, hp', nx⟩) :
    Run P ro B f R ⟨⟨fn, n, sl, .reg ops i0 (o :: cur) tl :: k⟩, rest, hp, nx⟩ := by
  have hqm : q ≤ c.m := by rw [hq]; exact Nat.min_le_right _ _
  have hqm2 : q ≤ c.m2 := by rw [hq]; exact Nat.min_le_left _ _
  refine run_opz (Z := Unit) (G := fun _ => True) (sz := fun _ => .int .i64 q) (hpz := fun _ => hp') (nxz := fun _ => nx) (fun _ _ => ⟨sl', hput, hr⟩) ?_
  intro β w tmps b k' fs r dd hn hsl hlt hs hk hop
  have hw := guard_rel hgd hn hsl hlt
  have hrho : Rho β sl (Act.eval ⟨tmps, dd⟩) := ⟨hsl, fun _ => rfl, fun _ => rfl⟩
  generalize hop' : o.op = op at ho
  unfold cpyArg at ho
  split at ho <;> first | exact (none_ne ho).elim | skip
  rename_i as ts
  split at ho <;> first | exact (none_ne ho).elim | skip
  rename_i t t' cs' i' off' s' m' ap j' off2' s2' m2' ap2 e1 e2
  split at ho <;> first | exact (none_ne ho).elim | skip
  rename_i e hu
  split at ho <;> first | exact (none_ne ho).elim | skip
  rename_i hz
  simp only [Option.some.injEq, Prod.mk.injEq] at ho
  obtain ⟨rfl, rfl⟩ := ho
  simp only at hi hj hij hq hsm hsm2 hint hset' hqm hqm2
  obtain ⟨v1, vs1, k1, ⟨base, room, rfl, q1, q2, q3, q4⟩, ⟨v2, vs2, rfl, ⟨base2, room2, rfl, p1, p2, p3, p4⟩, rfl⟩⟩ := evList_rel hrho e2 (all_conj hc0)
  have ha : as.map (Act.eval ⟨tmps, dd⟩) = #[.slice base m' room, .slice base2 m2' room2] := by
    apply Array.toList_inj.1
    rw [Array.toList_map, k1]
  have ht : ts = #[t, t'] := by apply Array.toList_inj.1; rw [e1]
  obtain ⟨b', ob, g1, g2, g3, g4, g5⟩ := hs.own _ _ hi (by show 0 < N; omega)
  obtain ⟨cc, fz, tt, c0, rfl, c1, c2, c3⟩ := g4
  have hfz : fz = (0, 0) := g5.l
  subst hfz
  obtain ⟨b2, ob2, x1, x2, x3, x4, x5⟩ := hs.own _ _ hj (by show 0 < N2; omega)
  obtain ⟨cd, fz2, tt2, d0, rfl, d1, d2, d3⟩ := x4
  have hbb : b' ≠ b2 := fun e => by
    refine hs.apart _ _ _ _ hi hj (by show 0 < N; omega) (by show 0 < N2; omega) hij ?_
    rw [g1, x1, e]
  obtain ⟨r1, bb, r2, rfl, r3⟩ := q4 (by omega)
  rw [g1] at r2; injection r2 with r2; subst r2
  obtain ⟨s1, bc, s2, rfl, s3⟩ := p4 (by omega)
  rw [x1] at s2; injection s2 with s2; subst s2
  have hsz : off' + (s' + m') ≤ cc.size := by omega
  obtain ⟨vsrc, hvl, hv⟩ : ∃ vs : List Value, vs.length = q ∧ ∀ a, a < q → ∃ u, vs[a]? = some u ∧ cd[off2' + (s2' + a)]? = some u ∧ Rel β (g (s2' + a) 0) u := by
    refine ⟨(List.range q).map fun a => (cd[off2' + (s2' + a)]?).getD undef, by simp, fun a ha => ?_⟩
    obtain ⟨u, hu1, hu2⟩ := d3 (s2' + a) 0 (by omega) (by omega)
    have hu1' : cd[off2' + (s2' + a)]? = some u := by rw [← hu1]; congr 1; omega
    refine ⟨u, ?_, hu1', hu2⟩
    simp [ha, hu1']
  obtain ⟨c', y1, y2, y3, y4, y5, y6, y7, y8, y9⟩ := setCells_cells b' tt (0, 0) vsrc (off' + s' * 1) w cc g3 (by rw [hvl]; omega)
  refine ⟨(), β, w.setCells b' (off' + s' * 1) vsrc, .int .i64 q, trivial, Env.le_refl _, ?_, rfl, .one (op_value hop hw ?_)⟩
  · refine ⟨hs.toMem.set hset' ⟨hi, by show 0 < N; omega⟩ g1 ⟨c', (0, 0), tt, c0, rfl, c1, by omega, fun a j ha hj => ?_⟩ ⟨rfl, by show _ ≤ c'.size; rw [y2]; exact g5.s⟩ y1 (fun k hk => y5 k hk) y6 y7 y8 y9, hs.fresh⟩
    obtain ⟨u, hu1, hu2⟩ := c3 a j ha hj
    have hj0 : j = 0 := by omega
    subst hj0
    by_cases hq2 : s' ≤ a ∧ a < s' + q
    · obtain ⟨u', w1, w2, w3⟩ := hv (a - s') (by omega)
      refine ⟨u', ?_, by unfold cpyF; rw [if_pos hq2]; exact w3⟩
      have := y3 (a - s') (by rw [hvl]; omega)
      rw [show off' + s' * 1 + (a - s') = off' + a * 1 + 0 by omega] at this
      rw [this, w1]
    · refine ⟨u, ?_, by unfold cpyF; rw [if_neg hq2]; exact hu2⟩
      rw [y4 _ (by rw [hvl]; omega)]; exact hu1
  · have hz' : (P.info? e).map (·.size) = some 1 := by
      unfold sizeIn at hz
      split at hz
      · rename_i inf hinf
        injection hz with hz
        simp [hinf, hz]
      · cases hz
    have hrun := run_copy_cells (P := P) w t t' o.type e b' (off' + s' * 1) m' room ⟨b2, off2' + s2' * 1, none⟩ m2' room2 vsrc hu hz' (by rw [hvl]; exact hq) (fun j v hjv => ?_) (fun j hj => ?_) (fun j hj => ?_) (fun v hv' => ?_)
    · simp only [execOp, hop', Sem.run_bind, resolve, Sem.run_pure, Result.andThen, invoke, builtin, ha, ht, hrun, hvl]
      rfl
    · have hjl : j < q := by
        have := (List.getElem?_eq_some_iff.1 hjv).1
        omega
      obtain ⟨u', w1, w2, w3⟩ := hv j hjl
      rw [w1] at hjv; injection hjv with hjv; subst hjv
      have hadd : (⟨b2, off2' + s2' * 1, none⟩ : Addr).add j = ⟨b2, off2' + s2' * 1 + j, none⟩ := by unfold Addr.add; split <;> simp_all
      rw [hadd]
      have w2' : cd[off2' + s2' * 1 + j]? = some u' := by rw [← w2]; congr 1; omega
      simp only [World.cell?, x3]
      exact w2'
    · have : off' + s' * 1 + j < cc.size := by omega
      simp [World.cell?, g3]
      omega
    · simp [World.frozen?, g3]
    · obtain ⟨a, ha1⟩ := List.getElem?_of_mem hv'
      have hal : a < q := by
        have := (List.getElem?_eq_some_iff.1 ha1).1
        omega
      obtain ⟨u', w1, w2, w3⟩ := hv a hal
      rw [w1] at ha1; injection ha1 with ha1; subst ha1
      obtain ⟨kk, z, hz2⟩ := hint a hal
      rw [hz2] at w3
      have w3 : u' = .int kk z := w3
      rw [w3]; rfl
end
end Sx
end
