/- The model's machine follows the symbolic machine's steps. No condition. -/
import Derived.Test.YtpjabkjacldgcaaEng9
namespace Sx
open Go

def Named (P : Program) : Prop := ∀ (f : FuncId) (fn : Func), P.funcs[f]? = some fn → (fn.name == "runtime.NumGoroutine") = false
def Base.ok (B : Base) : Prop := ∀ b o, B.D b = some o → b < B.w.heap.size
def SumOk (P : Program) (S : Sum) : Prop := ∀ f xs cs r, S f xs = some (cs, r) → All cs → ∀ β vs w, RelL β xs vs →
  Calls P f vs.toArray w fun e w' => ∃ v, e = .returned v ∧ Rel β r v ∧ RowKit.Below w.heap.size w w'

theorem FrRel.at {β : Env} {s : SFr} {fr : Frame} (h : FrRel β s fr) : fr = fr.atR ⟨fr.tmps, dfr s.fn.dfs⟩ (s.todo.map SI.item) := by
  have h1 := h.todo; have h2 := h.defers; have h3 := h.mode; have h4 := h.rnd
  cases fr
  simp only at h1 h2 h3 h4
  subst h1 h2 h3 h4
  rfl
theorem FrRel.of {β : Env} {fn : FId} {n : Nat} {sl : Slots} {todo : List SI} {b : Frame} {tmps : Array Value} (hf : b.fn = fn.f) (hr : b.roundOf = fn.rnd) (hk : b.kind = .normal) (hn : tmps.size = n)
    (hs : ∀ t v, look t sl = some v → Rel β v (tmps.getD t undef)) (hlt : ∀ t v, look t sl = some v → t < n) (hok : ∀ x ∈ todo, x.ok) : FrRel β ⟨fn, n, sl, todo⟩ (b.atR ⟨tmps, dfr fn.dfs⟩ (todo.map SI.item)) :=
  ⟨hf, hn, hs, hlt, rfl, hok, rfl, rfl, hk, hr⟩
theorem FrRel.rho {ds : List Deferred} {β : Env} {s : SFr} {fr : Frame} (h : FrRel β s fr) : Rho β s.sl (Act.eval ⟨fr.tmps, ds⟩) :=
  ⟨h.slot, fun _ => rfl, fun _ => rfl⟩

theorem exitS_spec {id : Nat} : ∀ {k k' : List SI}, exitS id k = some k' → exitTo id (k.map SI.item) = some (k'.map SI.item) ∧ ∀ x ∈ k', x ∈ k
  | [], k', h => by cases h
  | .blk j :: k, k', h => by
    simp only [exitS] at h
    cases hb : Nat.beq j id with
    | true =>
      rw [hb] at h; simp only [cond_true, Option.some.injEq] at h; subst h
      have := beq_nat hb; subst this
      exact ⟨by simp [SI.item, exitTo], fun x hx => List.mem_cons_of_mem _ hx⟩
    | false =>
      rw [hb] at h; simp only [cond_false] at h
      obtain ⟨h1, h2⟩ := exitS_spec h
      refine ⟨?_, fun x hx => List.mem_cons_of_mem _ (h2 x hx)⟩
      simp only [List.map_cons, SI.item, exitTo]
      rw [if_neg ?_]
      · exact h1
      · intro e; have : j = id := by simpa using e
        subst this; rw [Nat.beq_refl] at hb; cases hb
  | .code c :: k, k', h => by obtain ⟨h1, h2⟩ := exitS_spec (k := k) h; exact ⟨by simpa [SI.item, exitTo] using h1, fun x hx => List.mem_cons_of_mem _ (h2 x hx)⟩
  | .loop c :: k, k', h => by obtain ⟨h1, h2⟩ := exitS_spec (k := k) h; exact ⟨by simpa [SI.item, exitTo] using h1, fun x hx => List.mem_cons_of_mem _ (h2 x hx)⟩
  | .scope c :: k, k', h => by obtain ⟨h1, h2⟩ := exitS_spec (k := k) h; exact ⟨by simpa [SI.item, exitTo] using h1, fun x hx => List.mem_cons_of_mem _ (h2 x hx)⟩
  | .inR _ :: k, k', h => by obtain ⟨h1, h2⟩ := exitS_spec (k := k) h; exact ⟨by simpa [SI.item, exitTo] using h1, fun x hx => List.mem_cons_of_mem _ (h2 x hx)⟩
  | .begin :: k, k', h => by obtain ⟨h1, h2⟩ := exitS_spec (k := k) h; exact ⟨by simpa [SI.item, exitTo] using h1, fun x hx => List.mem_cons_of_mem _ (h2 x hx)⟩
  | .endR _ :: k, k', h => by obtain ⟨h1, h2⟩ := exitS_spec (k := k) h; exact ⟨by simpa [SI.item, exitTo] using h1, fun x hx => List.mem_cons_of_mem _ (h2 x hx)⟩
  | .reg a b c d :: k, k', h => by obtain ⟨h1, h2⟩ := exitS_spec (k := k) h; exact ⟨by simpa [SI.item, exitTo] using h1, fun x hx => List.mem_cons_of_mem _ (h2 x hx)⟩

theorem put_spec {ds : List Deferred} {β : Env} {dst : Option Tmp} {s : SV} {n : Nat} {sl sl' : Slots} (h : put dst s n sl = some sl') {tmps : Array Value} (hn : tmps.size = n)
    (hs : ∀ t v, look t sl = some v → Rel β v (tmps.getD t undef)) (hl : ∀ t v, look t sl = some v → t < n) {v : Value} (hv : Rel β s v) :
    (Act.put ⟨tmps, ds⟩ dst v).tmps.size = n ∧ (∀ t u, look t sl' = some u → t < n) ∧ ∀ t u, look t sl' = some u → Rel β u ((Act.put ⟨tmps, ds⟩ dst v).tmps.getD t undef) := by
  cases dst with
  | none => injection h with h; subst h; exact ⟨hn, hl, hs⟩
  | some d =>
    simp only [put, SV.force_eq] at h
    cases hb : Nat.ble (d + 1) n with
    | false => rw [hb] at h; cases h
    | true =>
      rw [hb] at h; simp only [cond_true, Option.some.injEq] at h; subst h
      have hlt := ble_nat hb
      refine ⟨by simp [Act.put, hn], fun t u hu => ?_, fun t u hu => ?_⟩
      · simp only [look] at hu
        cases ht : Nat.beq t d with
        | true => have := beq_nat ht; omega
        | false => rw [ht] at hu; exact hl t u hu
      simp only [look] at hu
      cases ht : Nat.beq t d with
      | true =>
        rw [ht] at hu; simp only [cond_true, Option.some.injEq] at hu; subst hu
        have := beq_nat ht; subst this
        simp only [Act.put, Array.getD_eq_getD_getElem?, Array.getElem?_setIfInBounds]
        rw [if_pos trivial, if_pos (by omega)]
        exact hv
      | false =>
        rw [ht] at hu; simp only [cond_false] at hu
        have hne : d ≠ t := by intro e; subst e; rw [Nat.beq_refl] at ht; cases ht
        have := hs t u hu
        simp only [Act.put, Array.getD_eq_getD_getElem?, Array.getElem?_setIfInBounds]
        rw [if_neg hne]
        simpa [Array.getD_eq_getD_getElem?] using this
theorem put_eq (tmps : Array Value) (ds : List Deferred) (dst : Option Tmp) (v : Value) : Act.put ⟨tmps, ds⟩ dst v = ⟨(Act.put ⟨tmps, ds⟩ dst v).tmps, ds⟩ := by cases dst <;> rfl

theorem reg_ok {ops : Array Oper} {i : Nat} {o : Oper} {cur : List Oper} {tl : Option (List Nat)} (h : (SI.reg ops i (o :: cur) tl).ok) :
    ops[i]? = some o ∧ (SI.reg ops (i + 1) cur tl).ok ∧ (SI.reg ops i (o :: cur) tl).item = .inRegion ops (i :: (List.range' (i + 1) cur.length ++ tl.getD [])) := by
  simp only [SI.ok] at h
  refine ⟨?_, ?_, ?_⟩
  · simpa using h 0 (by simp)
  · intro j hj
    have := h (j + 1) (by simp; omega)
    rw [show i + 1 + j = i + (j + 1) by omega, this]; simp
  · simp [SI.item, List.range'_succ]

theorem semAt_ok {P : Program} {ro : Option Nat} {ρ : Operand → Value} {o : Oper} {w w' : World} {x : Next} (h : (execOp ρ o).run P w = .ok x w') (hx : ∀ d, x ≠ .defer d) : o.semAt ro ρ = execOp ρ o := by
  refine Oper.semAt_eq _ _ _ (fun c hc => ?_)
  simp only [execOp, hc, Sem.run_bind] at h
  cases hr : (resolve ρ c o.type).run P w with
  | ok d w1 => simp [hr, Result.andThen] at h; exact hx d h.1.symm
  | halt a w1 => simp [hr, Result.andThen] at h

section
variable {P : Program} {b : Frame} {a : Act} {k : List Item} {cs : List Frame} {w w' : World} {ops : Array Oper} {i : Nat} {rest : List Nat} {o : Oper}
theorem op_value {v : Value} (ho : ops[i]? = some o) (hw : Region.wanted o (yielded ops a.tmps) = true) (hr : (execOp a.eval o).run P w = .ok (.value v) w') :
    step P (lone (b.atR a (.inRegion ops (i :: rest) :: k)) cs w) = .next (lone (b.atR (a.put o.dst v) (.inRegion ops rest :: k)) cs w') := by
  have hg := stepGR_op (P := P) (b := b) (k := k) (cs := cs) (w := w) (rest := rest) ho hw
  rw [semAt_ok hr (fun d e => by cases e)] at hg
  have hfin : (b.atR a (.inRegion ops (i :: rest) :: k)).finish v = b.atR (a.put o.dst v) (.inRegion ops rest :: k) := by rw [Frame.finish_atR, ho]; rfl
  refine step_lone_go ?_
  rw [hg, ← hfin]; simp [stepG.apply, hr]
theorem op_unit (ho : ops[i]? = some o) (hw : Region.wanted o (yielded ops a.tmps) = true) (hr : (execOp a.eval o).run P w = .ok .skip w') :
    step P (lone (b.atR a (.inRegion ops (i :: rest) :: k)) cs w) = .next (lone (b.atR (a.put o.dst undef) (.inRegion ops rest :: k)) cs w') := by
  have hg := stepGR_op (P := P) (b := b) (k := k) (cs := cs) (w := w) (rest := rest) ho hw
  rw [semAt_ok hr (fun d e => by cases e)] at hg
  have hfin : (b.atR a (.inRegion ops (i :: rest) :: k)).finish undef = b.atR (a.put o.dst undef) (.inRegion ops rest :: k) := by rw [Frame.finish_atR, ho]; rfl
  refine step_lone_go ?_
  rw [hg, ← hfin]; simp [stepG.apply, hr]
theorem op_pass (ho : ops[i]? = some o) (hw : Region.wanted o (yielded ops a.tmps) = false) :
    step P (lone (b.atR a (.inRegion ops (i :: rest) :: k)) cs w) = .next (lone (b.atR (a.put o.dst undef) (.inRegion ops rest :: k)) cs w) := by
  have hs := stepR_op_skip (P := P) (b := b) (a := a) (k := k) (cs := cs) (w := w) (ops := ops) (i := i) (rest := rest) (by simp [ho, hw])
  simpa [ho] using hs
theorem op_enter {f : FuncId} {xs : Array Value} (ho : ops[i]? = some o) (hw : Region.wanted o (yielded ops a.tmps) = true) (hr : (execOp a.eval o).run P w = .ok (.enter f xs) w') :
    step P (lone (b.atR a (.inRegion ops (i :: rest) :: k)) cs w) = .next (lone (Frame.enter P f xs .normal) (b.atR a (.inRegion ops (i :: rest) :: k) :: cs) w') := by
  have hg := stepGR_op (P := P) (b := b) (k := k) (cs := cs) (w := w) (rest := rest) ho hw
  rw [semAt_ok hr (fun d e => by cases e)] at hg
  exact step_lone_go (by rw [hg]; simp [stepG.apply, hr, Frame.atR])
end

/-- What the symbolic guard says of the real one. -/
theorem guard_rel {β : Env} {ops : Array Oper} {sl : Slots} {o : Oper} {g : Gd} (h : guardIn ops sl o = some g) {tmps : Array Value} {n : Nat} (hn : tmps.size = n)
    (hs : ∀ t v, look t sl = some v → Rel β v (tmps.getD t undef)) (hlt : ∀ t v, look t sl = some v → t < tmps.size) :
    match g with
    | .run => Region.wanted o (yielded ops tmps) = true
    | .pass => Region.wanted o (yielded ops tmps) = false
    | .may c => Region.wanted o (yielded ops tmps) = c := by
  unfold guardIn at h
  unfold Region.wanted
  split at h
  · rename_i hg; injection h with h; subst h; simp [hg]
  · rename_i j want hg
    simp only [hg]
    split at h
    · rename_i t ht
      have hy : ∀ v, tmps.getD t undef = v → t < tmps.size → yielded ops tmps j = match v with | .bool b => some b | _ => none := by
        intro v hv hlt
        unfold yielded
        rw [ht]
        simp only [Option.bind_some]
        rw [Array.getElem?_eq_getElem hlt]
        have : tmps[t] = v := by rw [← hv, Array.getD_eq_getD_getElem?, Array.getElem?_eq_getElem hlt]; rfl
        rw [this]
        cases v <;> rfl
      split at h
      · rename_i hl
        have hv := hs t _ hl
        rw [hy _ hv (hlt t _ hl)]
        cases want <;> (injection h with h; subst h; rfl)
      · rename_i hl
        have hv := hs t _ hl
        rw [hy _ hv (hlt t _ hl)]
        cases want <;> (injection h with h; subst h; rfl)
      · rename_i g' hl
        have hv := hs t _ hl
        rw [hy _ hv (hlt t _ hl)]
        cases want <;> (injection h with h; subst h; cases g' <;> rfl)
      · rename_i g1 g2 hl
        obtain ⟨h1, h2⟩ := hs t _ hl
        cases g1 with
        | true => rw [hy _ (h1 rfl) (hlt t _ hl)]; cases want <;> (injection h with h; subst h; cases g2 <;> rfl)
        | false => rw [hy _ (h2 rfl) (hlt t _ hl)]; cases want <;> (injection h with h; subst h; rfl)
      · rename_i g1 hl
        obtain ⟨h1, h2⟩ := hs t _ hl
        cases g1 with
        | true => rw [hy _ (h1 rfl) (hlt t _ hl)]; cases want <;> (injection h with h; subst h; rfl)
        | false => rw [hy _ (h2 rfl) (hlt t _ hl)]; cases want <;> (injection h with h; subst h; rfl)
      · rename_i g1 hl
        obtain ⟨h1, h2⟩ := hs t _ hl
        cases g1 with
        | true => rw [hy _ (h1 rfl) (hlt t _ hl)]; cases want <;> (injection h with h; subst h; rfl)
        | false => rw [hy _ (h2 rfl) (hlt t _ hl)]; cases want <;> (injection h with h; subst h; rfl)
      · cases h
    · cases h
end Sx
