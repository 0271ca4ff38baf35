/- The model's machine follows the symbolic machine's steps: the theorem. No condition but the callees' own words. -/
import Derived.Test.YtpjabkjacldgcaaEng10
namespace Sx
open Go

theorem Sat.below {β : Env} {hp ro : Hp} {B : Base} {nx : Nat} {w w' : World} (hs : Sat β hp ro B nx w) (hb : RowKit.Below w.heap.size w w') : Sat β hp ro B nx w' := by
  have hlt : ∀ b o, w.heap[b]? = some o → w'.heap[b]? = some o := fun b o h => by rw [hb.block b (Array.getElem?_eq_some_iff.1 h).1]; exact h
  refine ⟨⟨?_, hs.apart, hs.read, fun b o h => hlt b o (hs.old b o h), hb.os.trans hs.os, hb.tape.trans hs.tape, hb.output.trans hs.output, Nat.le_trans hs.size hb.size, hs.pin⟩, hs.fresh⟩
  intro j s hj
  intro hlive
  obtain ⟨b, o, h1, h2, h3, h4, h5⟩ := hs.own j s hj hlive
  exact ⟨b, o, h1, h2, hlt b o h3, h4, h5⟩

theorem appL_spec : ∀ {a b r : List SV}, appL a b = some r → r = a ++ b
  | [], b, r, h => by injection h with h; exact h.symm
  | x :: a, b, r, h => by
    simp only [appL] at h
    split at h
    · rename_i r' hr; injection h with h; subst h; rw [appL_spec hr]; rfl
    · cases h

theorem callee_run {P : Program} {β : Env} {w : World} {sl : Slots} {ρ : Operand → Value} (hP : Named P) (hr : Rho β sl ρ) {o : Oper} {cs : List Prop} {g : Nat} {fn : Func} {b : Code} {xs : List SV}
    (h : callee P sl o.op = some (cs, g, fn, b, xs)) (hc : All cs) :
    P.funcs[g]? = some fn ∧ fn.body = some b ∧ ∃ vs : List Value, RelL β xs vs ∧ (execOp ρ o).run P w = .ok (.enter g vs.toArray) w := by
  generalize hop : o.op = op at h
  unfold callee at h
  split at h
  · rename_i f ys tys
    split at h <;> first | exact (none_ne h).elim | skip
    rename_i cs1 g' a c ds l e1 e2
    split at h <;> first | exact (none_ne h).elim | skip
    rename_i fn' hfn
    split at h <;> first | exact (none_ne h).elim | skip
    rename_i b' hb
    split at h <;> first | exact (none_ne h).elim | skip
    rename_i lc e3
    split at h <;> first | exact (none_ne h).elim | skip
    rename_i alc e4
    simp only [Option.some.injEq, Prod.mk.injEq] at h
    obtain ⟨rfl, rfl, rfl, rfl, rfl⟩ := h
    have e3 := appL_spec e3
    have e4 := appL_spec e4
    subst e3 e4
    obtain ⟨us, ws, hv, hu, hw⟩ := evs_rel hr e1 hc.left
    have hl := evList_rel hr e2 hc.right
    refine ⟨hfn, hb, us ++ (ys.toList.map ρ ++ ws), hu.append (hl.append hw), ?_⟩
    have hname := hP _ _ hfn
    simp only [execOp, hop, Sem.run_bind, resolve, hv, Deferred.ofValue, Sem.run_pure, Result.andThen, invoke, callFunc, run_program, hfn, Sem.run_ite, hname, Bool.false_eq_true, if_false, hb, Option.isNone_some]
    congr 2
    apply Array.ext'
    simp
  · cases h

def resSem (tmps : Array Value) : ResultVar → Sem Value
  | .tmp t => pure (tmps.getD t undef)
  | .cell a t => do loadVar t (← asAddr (tmps.getD a undef))
theorem results_eq (fn : Func) (tmps : Array Value) : results fn tmps = (do let vs ← fn.results.mapM (resSem tmps); pure (if h : vs.size = 1 then vs[0] else .tuple vs)) := by
  unfold results
  congr 1

theorem resOne_run {dd : List Deferred} {P : Program} {β : Env} {hp ro : Hp} {B : Base} {nx : Nat} {w : World} (hs : Sat β hp ro B nx w) {sl : Slots} {tmps : Array Value} (hr : Rho β sl (Act.eval ⟨tmps, dd⟩))
    {r : ResultVar} {cs : List Prop} {s : SV} (h : resOne P sl hp ro r = some (cs, s)) (hc : All cs) :
    ∃ v, (resSem tmps r).run P w = .ok v w ∧ Rel β s v := by
  cases r with
  | tmp t => exact ⟨tmps.getD t undef, rfl, evs_rel (ρ := Act.eval ⟨tmps, dd⟩) hr h hc⟩
  | cell a t =>
    simp only [resOne] at h
    split at h <;> first | exact (none_ne h).elim | skip
    rename_i cs1 p e1
    split at h <;> first | exact (none_ne h).elim | skip
    rename_i ds v e2
    simp only [Option.some.injEq, Prod.mk.injEq] at h
    obtain ⟨rfl, rfl⟩ := h
    have hx := evs_rel hr e1 hc.left
    obtain ⟨u, hu, hru⟩ := load_run (P := P) hs.toMem e2 hc.right hx
    refine ⟨u, ?_, hru⟩
    have hptr : ∃ ad, (Act.eval ⟨tmps, dd⟩ (.tmp a)) = .pointer (some ad) := by
      unfold load at e2
      split at e2
      · split at e2
        · split at e2
          · rename_i hl
            unfold hread at hl
            split at hl
            · rename_i hpl; obtain ⟨b, _, e⟩ := oplace_rel hpl hx; exact ⟨_, e⟩
            · cases hl
          · cases e2
        · cases e2
      · split at e2
        · rename_i hl
          unfold hread at hl
          split at hl
          · rename_i hpl; obtain ⟨b, _, e⟩ := oplace_rel hpl hx; exact ⟨_, e⟩
          · cases hl
        · cases e2
      · cases e2
    obtain ⟨ad, had⟩ := hptr
    rw [had] at hu
    have had' : tmps.getD a undef = .pointer (some ad) := had
    simp only [resSem, had', asAddr, Sem.run_bind, Sem.run_pure, Result.andThen]
    simpa [Instr.loadAt, Instr.sureAddr, Result.andThen] using hu

theorem resAll_run {dd : List Deferred} {P : Program} {β : Env} {hp ro : Hp} {B : Base} {nx : Nat} {w : World} (hs : Sat β hp ro B nx w) {sl : Slots} {tmps : Array Value} (hr : Rho β sl (Act.eval ⟨tmps, dd⟩)) :
    ∀ {rs : List ResultVar} {cs : List Prop} {l : List SV}, resAll P sl hp ro rs = some (cs, l) → All cs →
    ∃ vs, (rs.mapM (resSem tmps)).run P w = .ok vs w ∧ RelL β l vs
  | [], cs, l, h, hc => by simp only [resAll, Option.some.injEq, Prod.mk.injEq] at h; obtain ⟨rfl, rfl⟩ := h; exact ⟨[], by simp, rfl⟩
  | r :: rs, cs, l, h, hc => by
    simp only [resAll, SV.force_eq] at h
    split at h <;> first | exact (none_ne h).elim | skip
    rename_i cs1 v ds l' e1 e2
    simp only [Option.some.injEq, Prod.mk.injEq] at h
    obtain ⟨rfl, rfl⟩ := h
    obtain ⟨u, hu, hru⟩ := resOne_run (P := P) hs hr e1 hc.left
    obtain ⟨us, hus, hl⟩ := resAll_run hs hr e2 hc.right
    exact ⟨u :: us, by simp only [List.mapM_cons, Sem.run_bind, hu, Result.andThen, hus, Sem.run_pure], u, us, rfl, hru, hl⟩

theorem resV_run {dd : List Deferred} {P : Program} {β : Env} {hp ro : Hp} {B : Base} {nx : Nat} {w : World} (hs : Sat β hp ro B nx w) {sl : Slots} {tmps : Array Value} (hr : Rho β sl (Act.eval ⟨tmps, dd⟩))
    {f : Nat} {cs : List Prop} {s : SV} (h : resV P f sl hp ro = some (cs, s)) (hc : All cs) : ∃ fn v, P.funcs[f]? = some fn ∧ (results fn tmps).run P w = .ok v w ∧ Rel β s v := by
  unfold resV at h
  split at h <;> first | exact (none_ne h).elim | skip
  rename_i fn hfn
  have key : ∀ {cs l}, resAll P sl hp ro fn.results.toList = some (cs, l) → All cs → ∃ vs, RelL β l vs ∧ (results fn tmps).run P w = .ok (if h : vs.toArray.size = 1 then vs.toArray[0] else .tuple vs.toArray) w := by
    intro cs l hl hc
    obtain ⟨vs, hvs, hrel⟩ := resAll_run hs hr hl hc
    refine ⟨vs, hrel, ?_⟩
    rw [results_eq]
    simp only [Array.mapM_eq_mapM_toList, Sem.run_bind, Sem.run_map, hvs, Result.andThen, Sem.run_pure]
  split at h <;> first | exact (none_ne h).elim | skip
  · rename_i cs1 v e
    simp only [Option.some.injEq, Prod.mk.injEq] at h
    obtain ⟨rfl, rfl⟩ := h
    obtain ⟨vs, ⟨u, us, rfl, hu, hn⟩, hrun⟩ := key e hc
    simp only [RelL] at hn; subst hn
    exact ⟨fn, u, hfn, by rw [hrun]; simp, hu⟩
  · rename_i cs1 l hne e
    simp only [Option.some.injEq, Prod.mk.injEq] at h
    obtain ⟨rfl, rfl⟩ := h
    obtain ⟨vs, hrel, hrun⟩ := key e hc
    have hlen : vs.toArray.size ≠ 1 := by
      intro h1
      have := hrel.length
      simp at h1
      rw [h1] at this
      cases l with
      | nil => simp at this
      | cons x l =>
        cases l with
        | nil => exact hne x rfl
        | cons y l => simp at this
    exact ⟨fn, _, hfn, by rw [hrun, dif_neg hlen], vs, rfl, hrel⟩

theorem thin_spec {k : List Nat} : ∀ {sl sl' : Slots}, thin k sl = some sl' → ∀ {t v}, look t sl' = some v → look t sl = some v
  | [], sl', h, t, v, hl => by injection h with h; subst h; exact hl
  | (i, u) :: r, sl', h, t, v, hl => by
    simp only [thin] at h
    split at h <;> first | exact (none_ne h).elim | skip
    rename_i r' hr
    cases hk : hasN i k with
    | true =>
      rw [hk] at h; simp only [cond_true, Option.some.injEq] at h; subst h
      simp only [look] at hl ⊢
      cases hb : Nat.beq t i with
      | true => rw [hb] at hl; exact hl
      | false => rw [hb] at hl; exact thin_spec hr hl
    | false =>
      rw [hk] at h; simp only [cond_false, Option.some.injEq] at h; subst h
      simp only [look]
      cases hb : Nat.beq t i with
      | true =>
        exfalso
        have := beq_nat hb; subst this
        have : ∀ {sl sl' : Slots}, thin k sl = some sl' → look t sl' = none := by
          intro sl
          induction sl with
          | nil => intro sl' h; injection h with h; subst h; rfl
          | cons p r ih =>
            intro sl' h
            obtain ⟨j, x⟩ := p
            simp only [thin] at h
            split at h <;> first | exact (none_ne h).elim | skip
            rename_i r'' hr''
            cases hj : hasN j k with
            | true =>
              rw [hj] at h; simp only [cond_true, Option.some.injEq] at h; subst h
              simp only [look]
              cases hb2 : Nat.beq t j with
              | true => have := beq_nat hb2; subst this; rw [hk] at hj; cases hj
              | false => exact ih hr''
            | false =>
              rw [hj] at h; simp only [cond_false, Option.some.injEq] at h; subst h; exact ih hr''
        rw [this hr] at hl; cases hl
      | false => exact thin_spec hr hl

theorem enum_look : ∀ {xs : List SV} {i t : Nat} {v : SV}, look t (enumFrom i xs) = some v → i ≤ t ∧ xs[t - i]? = some v
  | [], i, t, v, h => by cases h
  | x :: xs, i, t, v, h => by
    simp only [enumFrom, look] at h
    cases hb : Nat.beq t i with
    | true => rw [hb] at h; have := beq_nat hb; subst this; simp at h; exact ⟨Nat.le_refl _, by simp [h]⟩
    | false =>
      rw [hb] at h; simp only [cond_false] at h
      obtain ⟨h1, h2⟩ := enum_look h
      have hne : t ≠ i := by intro e; subst e; rw [Nat.beq_refl] at hb; cases hb
      refine ⟨by omega, ?_⟩
      rw [show t - i = (t - (i + 1)) + 1 by omega]
      simpa using h2

theorem enter_rel {P : Program} {β : Env} {f : Nat} {fn : Func} {b : Code} {xs : List SV} {vs : List Value} (hfn : P.funcs[f]? = some fn) (hb : fn.body = some b) (hl : RelL β xs vs) :
    FrRel β ⟨fid f, xs.length + (fn.ntmps - xs.length), enumFrom 0 xs, [.code b]⟩ (Frame.enter P f vs.toArray .normal) := by
  have hlen := hl.length
  refine ⟨rfl, by simp [Frame.enter, hfn, hlen], ?_, ?_, by simp [Frame.enter, hfn, hb, SI.item], ?_, rfl, rfl, rfl, rfl⟩
  · intro t v h
    obtain ⟨_, h2⟩ := enum_look h
    obtain ⟨u, hu, hr⟩ := hl.get (i := t) (by simpa using h2)
    have hlt : t < vs.length := (List.getElem?_eq_some_iff.1 hu).1
    simp only [Frame.enter, Array.getD_eq_getD_getElem?]
    rw [Array.getElem?_append_left (by simpa using hlt)]
    simpa [hu] using hr
  · intro t v h
    obtain ⟨_, h2⟩ := enum_look h
    have := (List.getElem?_eq_some_iff.1 h2).1
    show t < xs.length + (fn.ntmps - xs.length)
    omega
  · intro x hx
    simp at hx; subst hx; trivial
end Sx
