/- Rules for whoever proves by the symbolic machine. No condition. -/
import Derived.Test.YtpjabkjacldgcaaEng12
namespace Sx
open Go

def conj : List Prop → Prop
  | [] => True
  | p :: ps => p ∧ conj ps
theorem all_conj : ∀ {cs : List Prop}, conj cs → All cs
  | [], _ => All.nil
  | _ :: _, h => All.cons h.1 (all_conj h.2)

section
variable {P : Program} {M : Mode} {ro : Hp} {B : Base} {f : FuncId} {R : Ending → World → Prop}

theorem run_exec (hP : Named P) (hB : B.ok) (hM : SumOk P M.sum) (m : Nat) {cs : List Prop} {c c' : Cfg} (h : exec P M ro m [] c = (cs, c')) (hc : conj cs) (hr : Run P ro B f R c') : Run P ro B f R c :=
  exec_run (fun h hc hr => sstep_run hP hB hM h hc hr) h (all_conj hc) hr

/-- A test that is not decided. -/
theorem run_cond {fn : FId} {n : Nat} {sl : Slots} {x : Operand} {a b : Code} {k : List SI} {rest : List SFr} {hp : Hp} {nx : Nat} {t : Bool} (hx : ev sl x = some (.sb t))
    (h1 : t = true → Run P ro B f R ⟨⟨fn, n, sl, .code a :: k⟩, rest, hp, nx⟩) (h2 : t = false → Run P ro B f R ⟨⟨fn, n, sl, .code b :: k⟩, rest, hp, nx⟩) :
    Run P ro B f R ⟨⟨fn, n, sl, .code (.cond x a b) :: k⟩, rest, hp, nx⟩ := by
  have main : ∀ (c : Code) (tt : Bool), t = tt → (if tt then a else b) = c → Run P ro B f R ⟨⟨fn, n, sl, .code c :: k⟩, rest, hp, nx⟩ → Run P ro B f R ⟨⟨fn, n, sl, .code (.cond x a b) :: k⟩, rest, hp, nx⟩ := by
    intro c tt ht hcc hr
    refine Run.step (fun β w fr frs cs hf hfs hs => ?_) hr
    refine ⟨β, w, fr.atR ⟨fr.tmps, dfr fn.dfs⟩ ((SI.code c :: k).map SI.item), frs, .one ?_, FrRel.of hf.fn hf.rnd hf.kind hf.size hf.slot hf.lt ?_, hfs, hs⟩
    · have he : Act.eval ⟨fr.tmps, dfr fn.dfs⟩ x = .bool tt := by rw [← ht]; exact ev_rel hf.rho hx
      have := hf.at
      rw [this]
      have := stepR_cond (P := P) (b := fr) (a := ⟨fr.tmps, dfr fn.dfs⟩) (k := k.map SI.item) (cs := frs ++ cs) (w := w) (x := a) (y := b) he
      rw [hcc] at this
      exact this
    · intro y hy
      cases hy with
      | head => trivial
      | tail _ hm => exact hf.ok y (List.mem_cons_of_mem _ hm)
  cases ht : t with
  | true => exact main a true ht rfl (h1 ht)
  | false => exact main b false ht rfl (h2 ht)

/-- Other slots that hold where these hold. -/
theorem run_slots {fn : FId} {n : Nat} {sl sl' : Slots} {td : List SI} {rest : List SFr} {hp : Hp} {nx : Nat}
    (h : ∀ (β : Env) (g : Nat → Value), (∀ t v, look t sl = some v → Rel β v (g t)) → ∀ t v, look t sl' = some v → Rel β v (g t) ∧ ∃ u, look t sl = some u)
    (hr : Run P ro B f R ⟨⟨fn, n, sl', td⟩, rest, hp, nx⟩) : Run P ro B f R ⟨⟨fn, n, sl, td⟩, rest, hp, nx⟩ := by
  intro β w fr frs cs hf hfs hs
  refine hr β w fr frs cs { hf with slot := fun t v e => (h β (fun t => fr.tmps.getD t undef) hf.slot t v e).1, lt := fun t v e => ?_ } hfs hs
  obtain ⟨u, hu⟩ := (h β (fun t => fr.tmps.getD t undef) hf.slot t v e).2
  exact hf.lt t u hu

def setSlot (t : Nat) (v : SV) : Slots → Slots
  | [] => []
  | (i, u) :: r => bif Nat.beq t i then (i, v) :: r else (i, u) :: setSlot t v r
theorem look_setSlot (t : Nat) (v : SV) : ∀ (sl : Slots) (i : Nat) (u : SV), look i (setSlot t v sl) = some u → (i = t ∧ u = v ∧ ∃ x, look t sl = some x) ∨ (look i sl = some u)
  | [], i, u, h => by cases h
  | (j, x) :: r, i, u, h => by
    simp only [setSlot] at h
    cases hb : Nat.beq t j with
    | true =>
      rw [hb] at h; simp only [cond_true, look] at h
      have := beq_nat hb; subst this
      cases hi : Nat.beq i t with
      | true => rw [hi] at h; have := beq_nat hi; subst this; simp at h; exact .inl ⟨rfl, h.symm, x, by simp [look]⟩
      | false => rw [hi] at h; exact .inr (by simp only [look, hi]; exact h)
    | false =>
      rw [hb] at h; simp only [cond_false, look] at h
      cases hi : Nat.beq i j with
      | true => rw [hi] at h; exact .inr (by simp only [look, hi]; exact h)
      | false =>
        rw [hi] at h; simp only [cond_false] at h
        rcases look_setSlot t v r i u h with ⟨h1, h2, y, h3⟩ | h1
        · refine .inl ⟨h1, h2, y, ?_⟩; simp only [look, hb]; exact h3
        · exact .inr (by simp only [look, hi]; exact h1)

/-- A truth value in a slot is split. -/
theorem run_split (t : Nat) {fn : FId} {n : Nat} {sl : Slots} {td : List SI} {rest : List SFr} {hp : Hp} {nx : Nat} {g : Bool} (hl : look t sl = some (.sb g))
    (h1 : g = true → Run P ro B f R ⟨⟨fn, n, setSlot t .tt sl, td⟩, rest, hp, nx⟩) (h2 : g = false → Run P ro B f R ⟨⟨fn, n, setSlot t .ff sl, td⟩, rest, hp, nx⟩) :
    Run P ro B f R ⟨⟨fn, n, sl, td⟩, rest, hp, nx⟩ := by
  have main : ∀ (v : SV), (∀ (β : Env) u, Rel β (.sb g) u → Rel β v u) → Run P ro B f R ⟨⟨fn, n, setSlot t v sl, td⟩, rest, hp, nx⟩ → Run P ro B f R ⟨⟨fn, n, sl, td⟩, rest, hp, nx⟩ := by
    intro v hv hr
    refine run_slots (fun β gg hs i u hu => ?_) hr
    rcases look_setSlot t v sl i u hu with ⟨rfl, rfl, x, hx⟩ | h
    · exact ⟨hv β _ (hs _ _ hl), _, hl⟩
    · exact ⟨hs _ _ h, _, h⟩
  cases hg : g with
  | true => exact main .tt (fun β u hu => by rw [hg] at hu; exact hu) (h1 hg)
  | false => exact main .ff (fun β u hu => by rw [hg] at hu; exact hu) (h2 hg)

theorem run_loop {fn : FId} {n : Nat} {sl : Slots} {a : Code} {k : List SI} {rest : List SFr} {hp : Hp} {nx : Nat} (hr : Run P ro B f R ⟨⟨fn, n, sl, .code a :: .loop a :: k⟩, rest, hp, nx⟩) :
    Run P ro B f R ⟨⟨fn, n, sl, .code (.loop a) :: k⟩, rest, hp, nx⟩ :=
  run_plain hr (fun _ _ _ _ => stepR_loop) (fun hh y hy => by
    cases hy with
    | head => trivial
    | tail _ hm => cases hm with
      | head => trivial
      | tail _ hm => exact hh y (List.mem_cons_of_mem _ hm))
theorem run_back {fn : FId} {n : Nat} {sl : Slots} {a : Code} {k : List SI} {rest : List SFr} {hp : Hp} {nx : Nat} (hr : Run P ro B f R ⟨⟨fn, n, sl, .code a :: .loop a :: k⟩, rest, hp, nx⟩) :
    Run P ro B f R ⟨⟨fn, n, sl, .loop a :: k⟩, rest, hp, nx⟩ :=
  run_plain hr (fun _ _ _ _ => stepR_inLoop) (fun hh y hy => by
    cases hy with
    | head => trivial
    | tail _ hm => exact hh y hm)

/-- The end of the lowest frame. -/
theorem run_ret {n : Nat} {sl : Slots} {td : List SI} {hp : Hp} {nx : Nat} {cs : List Prop} {v : SV} (hv : resV P f sl hp ro = some (cs, v)) (hc : conj cs)
    (hR : ∀ (β : Env) (w : World) (u : Value), Sat β hp ro B nx w → Rel β v u → R (.returned u) w) : Run P ro B f R ⟨⟨fid f, n, sl, .code .ret :: td⟩, [], hp, nx⟩ := by
  intro β w fr frs cs' hf hfs hs
  cases hfs
  obtain ⟨fd, u, hfd, hres, hru⟩ := resV_run hs (hf.rho (ds := [])) hv (all_conj hc)
  refine ⟨.returned u, w, { fr.atR ⟨fr.tmps, []⟩ (.code .ret :: td.map SI.item) with mode := .returning }, hR β w u hs hru, ?_, hf.fn, ?_⟩
  · have := hf.at
    rw [this]
    exact .one (stepR_ret hf.rnd)
  · exact ⟨rfl, rfl, hf.kind, fd, by show P.funcs[fr.fn]? = _; rw [hf.fn]; exact hfd, hres⟩

theorem run_end {n : Nat} {sl : Slots} {hp : Hp} {nx : Nat} {cs : List Prop} {v : SV} (hv : resV P f sl hp ro = some (cs, v)) (hc : conj cs)
    (hR : ∀ (β : Env) (w : World) (u : Value), Sat β hp ro B nx w → Rel β v u → R (.returned u) w) : Run P ro B f R ⟨⟨fid f, n, sl, []⟩, [], hp, nx⟩ := by
  intro β w fr frs cs' hf hfs hs
  cases hfs
  obtain ⟨fd, u, hfd, hres, hru⟩ := resV_run hs (hf.rho (ds := [])) hv (all_conj hc)
  refine ⟨.returned u, w, { fr.atR ⟨fr.tmps, []⟩ [] with mode := .returning }, hR β w u hs hru, ?_, hf.fn, ?_⟩
  · have := hf.at
    rw [this]
    exact .one (stepR_end hf.rnd)
  · exact ⟨rfl, rfl, hf.kind, fd, by show P.funcs[fr.fn]? = _; rw [hf.fn]; exact hfd, hres⟩

/-- A call, from its first step. -/
theorem calls_of_run {fn : Func} {c : Code} {β : Env} {xs : List SV} {vs : List Value} {w : World} {hp : Hp} {nx : Nat} (hfn : P.funcs[f]? = some fn) (hb : fn.body = some c) (hl : RelL β xs vs) (hs : Sat β hp ro B nx w)
    (hr : Run P ro B f R ⟨⟨fid f, xs.length + (fn.ntmps - xs.length), enumFrom 0 xs, [.code c]⟩, [], hp, nx⟩) : Calls P f vs.toArray w R := by
  intro cs
  exact hr β w _ [] cs (enter_rel hfn hb hl) .nil hs
end

/-- All old blocks. -/
def Base.all (w : World) : Base := ⟨fun b => w.heap[b]?, w, Env.nil⟩
theorem Base.all_ok (w : World) : (Base.all w).ok := fun b o h => (Array.getElem?_eq_some_iff.1 h).1
theorem sat_all (w : World) : Sat Env.nil [] [] (Base.all w) 0 w :=
  ⟨⟨fun _ _ h => (none_ne h).elim, fun _ _ _ _ h => (none_ne h).elim, fun _ _ h => (none_ne h).elim, fun _ _ h => h, rfl, rfl, rfl, Nat.le_refl _, Env.le_refl _⟩, fun _ _ => rfl⟩
theorem Sat.below_all {β : Env} {hp ro : Hp} {nx : Nat} {w w' : World} (hs : Sat β hp ro (Base.all w) nx w') : RowKit.Below w.heap.size w w' := by
  refine ⟨hs.os, hs.tape, hs.output, hs.size, fun k hk => ?_⟩
  have h : w.heap[k]? = some w.heap[k] := Array.getElem?_eq_getElem hk
  rw [h]; exact hs.old k _ h

mutual
def SV.closed : SV → Bool
  | .ptr .. | .ep .. | .sl .. | .sq .. | .mp .. => false
  | .cnd _ s => s.closed
  | .agg vs => closedL vs
  | .tup vs => closedL vs
  | .clo _ a c => closedL a && closedL c
  | .ifc _ s => s.closed
  | _ => true
def closedL : List SV → Bool
  | [] => true
  | v :: r => v.closed && closedL r
end
mutual
theorem Rel.closed {β β' : Env} : ∀ (s : SV) (v : Value), s.closed = true → Rel β s v → Rel β' s v
  | .int _ _, _, _, r => r
  | .tt, _, _, r => r
  | .ff, _, _, r => r
  | .sb _, _, _, r => r
  | .cnd _ s, v, h, r => ⟨fun g => Rel.closed s v (by simpa [SV.closed] using h) (r.1 g), r.2⟩
  | .ptr .., _, h, _ => by simp [SV.closed] at h
  | .ep .., _, h, _ => by simp [SV.closed] at h
  | .nil, _, _, r => r
  | .sl .., _, h, _ => by simp [SV.closed] at h
  | .sq .., _, h, _ => by simp [SV.closed] at h
  | .nilsl, _, _, r => r
  | .mp _, _, h, _ => by simp [SV.closed] at h
  | .nilmp, _, _, r => r
  | .agg vs, v, h, r => by obtain ⟨us, e, hl⟩ := r; exact ⟨us, e, RelL.closed vs us (by simpa [SV.closed] using h) hl⟩
  | .tup vs, v, h, r => by obtain ⟨us, e, hl⟩ := r; exact ⟨us, e, RelL.closed vs us (by simpa [SV.closed] using h) hl⟩
  | .clo _ a c, v, h, r => by
    obtain ⟨us, ws, e, hl, hm⟩ := r
    simp only [SV.closed, Bool.and_eq_true] at h
    exact ⟨us, ws, e, RelL.closed a us h.1 hl, RelL.closed c ws h.2 hm⟩
  | .nilf, _, _, r => r
  | .ifc _ s, v, h, r => by obtain ⟨u, e, hl⟩ := r; exact ⟨u, e, Rel.closed s u (by simpa [SV.closed] using h) hl⟩
  | .nilif, _, _, r => r
  | .str _, _, _, r => r
  | .und, _, _, r => r
theorem RelL.closed {β β' : Env} : ∀ (s : List SV) (v : List Value), closedL s = true → RelL β s v → RelL β' s v
  | [], _, _, r => r
  | s :: ss, us, h, r => by
    obtain ⟨v, vs, e, hv, hl⟩ := r
    simp only [closedL, Bool.and_eq_true] at h
    exact ⟨v, vs, e, Rel.closed s v h.1 hv, RelL.closed ss vs h.2 hl⟩
end

/-- What a call that only computes gives: r, in whatever memory. -/
def Gives (w : World) (r : SV) (e : Ending) (w' : World) : Prop := ∃ v, e = .returned v ∧ Rel Env.nil r v ∧ RowKit.Below w.heap.size w w'

/-- A call that only computes. -/
def Pure (P : Program) (f : FuncId) (xs : List SV) (r : SV) : Prop := ∀ vs w, RelL Env.nil xs vs → Calls P f vs.toArray w (Gives w r)

theorem pure_of_run {P : Program} {f : FuncId} {fn : Func} {c : Code} {xs : List SV} {r : SV} (hfn : P.funcs[f]? = some fn) (hb : fn.body = some c)
    (hr : ∀ w, Run P [] (Base.all w) f (Gives w r) ⟨⟨fid f, xs.length + (fn.ntmps - xs.length), enumFrom 0 xs, [.code c]⟩, [], [], 0⟩) : Pure P f xs r :=
  fun _ w hl => calls_of_run hfn hb hl (sat_all w) (hr w)

theorem gives_of {w w' : World} {r v : SV} {β : Env} {hp ro : Hp} {nx : Nat} {u : Value} (hs : Sat β hp ro (Base.all w) nx w') (hu : Rel β v u) (hc : v.closed = true) (e : v = r) : Gives w r (.returned u) w' := by
  subst e
  exact ⟨u, rfl, Rel.closed v u hc hu, hs.below_all⟩

abbrev SumL := List (Nat × (List SV → Option (List Prop × SV)))
def sumOf : SumL → Sum
  | [], _, _ => none
  | (g, F) :: r, f, xs => bif Nat.beq f g then F xs else sumOf r f xs
/-- One callee's word. -/
def PureOk (P : Program) (f : FuncId) (F : List SV → Option (List Prop × SV)) : Prop := ∀ xs cs r, F xs = some (cs, r) → All cs → closedL xs = true ∧ Pure P f xs r
theorem sumOk_nil (P : Program) : SumOk P (sumOf []) := fun f xs cs r h => by cases h
theorem sumOk_cons {P : Program} {g : Nat} {F : List SV → Option (List Prop × SV)} {l : SumL} (h : PureOk P g F) (hl : SumOk P (sumOf l)) : SumOk P (sumOf ((g, F) :: l)) := by
  intro f xs cs r hf hc β vs w hr
  simp only [sumOf] at hf
  cases hb : Nat.beq f g with
  | true =>
    rw [hb] at hf
    have := beq_nat hb; subst this
    obtain ⟨h1, h2⟩ := h xs cs r hf hc
    refine (h2 vs w (RelL.closed xs vs h1 hr)).mono ?_
    rintro e w' ⟨v, rfl, hv, hbel⟩
    exact ⟨v, rfl, Rel.mono (Env.nil_le _) _ _ hv, hbel⟩
  | false => rw [hb] at hf; exact hl f xs cs r hf hc β vs w hr
end Sx
