/- A range over a function: a round, and the way out. No condition. -/
import Derived.Test.YtpjabkjacldgcaaEng24
namespace Sx
open Go

def setPs : List Tmp → List SV → Nat → Slots → Option Slots
  | [], [], _, sl => some sl
  | t :: ts, v :: vs, n, sl => match put (some t) v n sl with
    | some sl' => setPs ts vs n sl'
    | none => none
  | _, _, _, _ => none
theorem setPs_rel {β : Env} {n : Nat} : ∀ {ts : List Tmp} {vs : List SV} {sl sl' : Slots} {xs : List Value} {tmps : Array Value}, setPs ts vs n sl = some sl' → tmps.size = n →
    (∀ t v, look t sl = some v → Rel β v (tmps.getD t undef)) → (∀ t v, look t sl = some v → t < n) → RelL β vs xs →
    ts.length = xs.length ∧ ((ts.zip xs).foldl (fun tmps (p : Tmp × Value) => tmps.setIfInBounds p.1 p.2) tmps).size = n ∧ (∀ t v, look t sl' = some v → t < n) ∧
      ∀ t v, look t sl' = some v → Rel β v (((ts.zip xs).foldl (fun tmps (p : Tmp × Value) => tmps.setIfInBounds p.1 p.2) tmps).getD t undef)
  | [], [], sl, sl', xs, tmps, h, hn, hs, hl, hx => by
    simp only [RelL] at hx; subst hx
    injection h with h; subst h
    exact ⟨rfl, hn, hl, hs⟩
  | t :: ts, v :: vs, sl, sl', xs, tmps, h, hn, hs, hl, hx => by
    obtain ⟨y, ys, rfl, hy, hys⟩ := hx
    simp only [setPs] at h
    split at h <;> first | exact (none_ne h).elim | skip
    rename_i sl1 h1
    obtain ⟨p1, p2, p3⟩ := put_spec (ds := []) h1 hn hs hl hy
    obtain ⟨g1, g2, g3, g4⟩ := setPs_rel h p1 p3 p2 hys
    exact ⟨by simp [g1], g2, g3, g4⟩
  | [], _ :: _, _, _, _, _, h, _, _, _, _ => by cases h
  | _ :: _, [], _, _, _, _, h, _, _, _, _ => by cases h

def yieldOp (sl : Slots) : Op → Option (List Prop × Nat × List SV)
  | .call { callee := .value f, args := as, argTypes := _ } => match evs sl f, evList sl as.toList with
    | some (cs, .clo (.yield l) [] []), some (ds, xs) => some (cs ++ ds, l, xs)
    | _, _ => none
  | _ => none

theorem op_round {P : Program} {b : Frame} {a : Act} {k : List Item} {cs : List Frame} {w w' : World} {ops : Array Oper} {i : Nat} {rest : List Nat} {o : Oper} {l : Nat} {f : FuncId} {xs : Array Value} {as bd : Code}
    (ho : ops[i]? = some o) (hw : Region.wanted o (yielded ops a.tmps) = true) (hr : (execOp a.eval o).run P w = .ok (.round l f xs as bd) w') :
    step P (lone (b.atR a (.inRegion ops (i :: rest) :: k)) cs w) = .next (lone (Frame.round l f xs as bd .normal) (b.atR a (.inRegion ops (i :: rest) :: k) :: cs) w') := by
  have hg := stepGR_op (P := P) (b := b) (k := k) (cs := cs) (w := w) (rest := rest) ho hw
  rw [semAt_ok hr (fun d e => by cases e)] at hg
  exact step_lone_go (by rw [hg]; simp [stepG.apply, hr])

theorem exitS_none {id : Nat} : ∀ {k : List SI}, exitS id k = none → exitTo id (k.map SI.item) = none
  | [], _ => rfl
  | .blk j :: k, h => by
    simp only [exitS] at h
    cases hb : Nat.beq j id with
    | true => rw [hb] at h; cases h
    | false =>
      rw [hb] at h
      simp only [List.map_cons, SI.item, exitTo]
      rw [if_neg ?_]
      · exact exitS_none h
      · intro e; have : j = id := by simpa using e
        subst this; rw [Nat.beq_refl] at hb; cases hb
  | .code c :: k, h => by have := exitS_none (k := k) h; simpa [SI.item, exitTo] using this
  | .loop c :: k, h => by have := exitS_none (k := k) h; simpa [SI.item, exitTo] using this
  | .scope c :: k, h => by have := exitS_none (k := k) h; simpa [SI.item, exitTo] using this
  | .inR c :: k, h => by have := exitS_none (k := k) h; simpa [SI.item, exitTo] using this
  | .begin :: k, h => by have := exitS_none (k := k) h; simpa [SI.item, exitTo] using this
  | .endR c :: k, h => by have := exitS_none (k := k) h; simpa [SI.item, exitTo] using this
  | .reg a b c d :: k, h => by have := exitS_none (k := k) h; simpa [SI.item, exitTo] using this

def stAfter : Option Code → LoopState
  | none => .ready
  | some _ => .done
def svAfter : Option Code → SV
  | none => .tt
  | some _ => .ff
def tdAfter : Option Code → List SI → List SI
  | none, k => k
  | some c, k => .code c :: k
/-- How a round is left. -/
inductive Leaves : List SI → Option Code → Prop where
  | off : Leaves [] none
  | ret (k : List SI) : Leaves (.code .ret :: k) (some .ret)
  | exit (id : Nat) (k : List SI) (h : exitS id k = none) : Leaves (.code (.exit id) :: k) (some (.exit id))

section
variable {P : Program} {ro : Hp} {B : Base} {f : FuncId} {R : Ending → World → Prop}

theorem Sat.loop {β : Env} {hp : Hp} {nx : Nat} {w : World} (hs : Sat β hp ro B nx w) {i0 l : Nat} (hpin : B.pin i0 = some l) {st : LoopState} {pe : Option Code} {fnL nL : Nat} {slL : Slots} {ps : Array Tmp} {as bd : Code} {D : Nat}
    (hlp : hget i0 hp = some (.lp st pe fnL nL slL ps as bd D)) : β i0 = some l ∧ ∃ tmps : Array Value, w.heap[l]? = some (.loop { state := st, pending := pe, fn := fnL, tmps := tmps, params := ps, assign := as, body := bd, defers := D }) ∧ tmps.size = nL ∧
      (∀ t v, look t slL = some v → Rel β v (tmps.getD t undef)) ∧ ∀ t v, look t slL = some v → t < nL := by
  have hβ := hs.pin _ _ hpin
  obtain ⟨b, o, g1, g2, g3, g4, g5⟩ := hs.own _ _ hlp trivial
  rw [hβ] at g1; injection g1 with g1; subst g1
  obtain ⟨tmps, rfl, h1, h2, h3⟩ := g4
  exact ⟨hβ, tmps, g3, h1, h2, h3⟩

theorem run_yield {fn : FId} {n : Nat} {sl : Slots} {ops : Array Oper} {i : Nat} {o : Oper} {cur : List Oper} {tl : Option (List Nat)} {k : List SI} {rest : List SFr} {hp : Hp} {nx : Nat} {cs : List Prop} {l : Nat} {xs : List SV} (i0 : Nat)
    {st : LoopState} {pe : Option Code} {fnL nL : Nat} {slL slR : Slots} {ps : Array Tmp} {as bd : Code} {D : Nat}
    (hgd : guardIn ops sl o = some .run) (hy : yieldOp sl o.op = some (cs, l, xs)) (hc : conj cs) (hpin : B.pin i0 = some l) (hlp : hget i0 hp = some (.lp st pe fnL nL slL ps as bd D)) (hps : setPs ps.toList xs nL slL = some slR)
    (h : Run P ro B f R ⟨⟨⟨fnL, some l, []⟩, nL, slR, [.code as, .begin, .code bd]⟩, ⟨fn, n, sl, .reg ops i (o :: cur) tl :: k⟩ :: rest, hp, nx⟩) :
    Run P ro B f R ⟨⟨fn, n, sl, .reg ops i (o :: cur) tl :: k⟩, rest, hp, nx⟩ := by
  refine Run.step (fun β w fr frs cs' hf hfs hs => ?_) h
  obtain ⟨hβ, tmps, h1, h2, h3, h4⟩ := hs.loop hpin hlp
  obtain ⟨ho, hok', hit⟩ := reg_ok (hf.ok _ (List.mem_cons_self ..))
  have hw := guard_rel hgd hf.size hf.slot (by rw [hf.size]; exact hf.lt)
  have hrho : Rho β sl (Act.eval ⟨fr.tmps, dfr fn.dfs⟩) := hf.rho
  generalize hop : o.op = op at hy
  unfold yieldOp at hy
  split at hy <;> first | exact (none_ne hy).elim | skip
  rename_i g as' tys
  split at hy <;> first | exact (none_ne hy).elim | skip
  rename_i c1 l' c2 xs' q1 q2
  simp only [Option.some.injEq, Prod.mk.injEq] at hy
  obtain ⟨rfl, rfl, rfl⟩ := hy
  have hcs := all_conj hc
  obtain ⟨us, ws, hv, hu, hw2⟩ := evs_rel hrho q1 hcs.left
  simp only [RelL] at hu hw2
  subst hu hw2
  have hl := evList_rel hrho q2 hcs.right
  obtain ⟨g1, g2, g3, g4⟩ := setPs_rel hps h2 h3 h4 hl
  have hrun : (execOp (Act.eval ⟨fr.tmps, dfr fn.dfs⟩) o).run P w = .ok (.round l' fnL ((ps.toList.zip (as'.toList.map (Act.eval ⟨fr.tmps, dfr fn.dfs⟩))).foldl (fun tmps (p : Tmp × Value) => tmps.setIfInBounds p.1 p.2) tmps) as bd) w := by
    have hy := _root_.Go.run_yield (P := P) (w := w) (args := as'.map (Act.eval ⟨fr.tmps, dfr fn.dfs⟩)) h1 (by simpa using g1.symm)
    simp only [execOp, hop, Sem.run_bind, resolve, hv, Deferred.ofValue, Sem.run_pure, Result.andThen, invoke]
    have e : (#[] ++ as'.map (Act.eval ⟨fr.tmps, dfr fn.dfs⟩)) = as'.map (Act.eval ⟨fr.tmps, dfr fn.dfs⟩) := by simp
    have e2 : (ps.zip (as'.map (Act.eval ⟨fr.tmps, dfr fn.dfs⟩))).foldl (fun tmps (p : Tmp × Value) => tmps.setIfInBounds p.1 p.2) tmps = (ps.toList.zip (as'.toList.map (Act.eval ⟨fr.tmps, dfr fn.dfs⟩))).foldl (fun tmps (p : Tmp × Value) => tmps.setIfInBounds p.1 p.2) tmps := by
      rw [← Array.foldl_toList, Array.toList_zip, Array.toList_map]
    rw [← e2]
    simpa using hy
  refine ⟨β, w, Frame.round l' fnL ((ps.toList.zip (as'.toList.map (Act.eval ⟨fr.tmps, dfr fn.dfs⟩))).foldl (fun tmps (p : Tmp × Value) => tmps.setIfInBounds p.1 p.2) tmps) as bd .normal, fr :: frs, .one ?_, ⟨rfl, g2, g4, g3, rfl, ?_, rfl, rfl, rfl, rfl⟩, .cons hf hfs, hs⟩
  · have := op_round (P := P) (b := fr) (a := ⟨fr.tmps, dfr fn.dfs⟩) (k := k.map SI.item) (cs := frs ++ cs') (w := w) (ops := ops) (i := i) (rest := List.range' (i + 1) cur.length ++ tl.getD []) ho hw hrun
    rw [← hit] at this
    have e3 := hf.at
    rw [List.cons_append]
    rw [e3]
    exact this
  · intro x hx
    simp at hx
    rcases hx with rfl | rfl | rfl <;> trivial

theorem run_begin {fn : FId} {n : Nat} {sl : Slots} {k : List SI} {rest : List SFr} {hp hp' : Hp} {nx l : Nat} (i0 : Nat) {pe : Option Code} {fnL nL : Nat} {slL : Slots} {ps : Array Tmp} {as bd : Code} {D : Nat}
    (hr : fn.rnd = some l) (hpin : B.pin i0 = some l) (hlp : hget i0 hp = some (.lp .ready pe fnL nL slL ps as bd D)) (hset' : hset i0 (.lp .busy pe fnL nL slL ps as bd D) hp = some hp')
    (h : Run P ro B f R ⟨⟨fn, n, sl, k⟩, rest, hp', nx⟩) : Run P ro B f R ⟨⟨fn, n, sl, .begin :: k⟩, rest, hp, nx⟩ := by
  refine Run.step (fun β w fr frs cs' hf hfs hs => ?_) h
  obtain ⟨hβ, tmps, h1, h2, h3, h4⟩ := hs.loop hpin hlp
  have hb := run_beginRound (P := P) (w := w) h1 rfl
  refine ⟨β, _, fr.atR ⟨fr.tmps, dfr fn.dfs⟩ (k.map SI.item), frs, .one ?_, FrRel.of hf.fn hf.rnd hf.kind hf.size hf.slot hf.lt (fun y hy => hf.ok y (List.mem_cons_of_mem _ hy)), hfs, hs.put hset' hlp trivial hβ ⟨tmps, rfl, h2, h3, h4⟩ (fun _ => lp_fit)⟩
  have := hf.at
  rw [this]
  exact stepR_beginRound (hf.rnd.trans hr) hb

/-- A round is left: yield hands back whether there is no jump. -/
theorem run_round {f0 n l : Nat} {dfs : List Nat} {sl : Slots} {td : List SI} {j : Option Code} {cfn : FId} {cn : Nat} {csl csl' : Slots} {ops : Array Oper} {i : Nat} {o : Oper} {cur : List Oper} {tl : Option (List Nat)} {k : List SI} {rest : List SFr} {hp hp' : Hp} {nx : Nat} (i0 : Nat)
    {st : LoopState} {pe : Option Code} {fnL nL : Nat} {slL : Slots} {ps : Array Tmp} {as bd : Code} {D : Nat}
    (hL : Leaves td j) (hpin : B.pin i0 = some l) (hlp : hget i0 hp = some (.lp st pe fnL nL slL ps as bd D)) (hset' : hset i0 (.lp (stAfter j) j fnL nL slL ps as bd D) hp = some hp')
    (hput : put o.dst (svAfter j) cn csl = some csl')
    (h : Run P ro B f R ⟨⟨cfn, cn, csl', .reg ops (i + 1) cur tl :: k⟩, rest, hp', nx⟩) :
    Run P ro B f R ⟨⟨⟨f0, some l, dfs⟩, n, sl, td⟩, ⟨cfn, cn, csl, .reg ops i (o :: cur) tl :: k⟩ :: rest, hp, nx⟩ := by
  refine Run.step (fun β w fr frs cs' hf hfs hs => ?_) h
  obtain ⟨hβ, tmps, h1, h2, h3, h4⟩ := hs.loop hpin hlp
  cases hfs with
  | cons hc1 hfs' =>
  rename_i cfr frs'
  obtain ⟨ho, hok', hit⟩ := reg_ok (hc1.ok _ (List.mem_cons_self ..))
  have hend := run_endRound (P := P) (w := w) j h1
  have e3 := hf.at
  have e4 := hc1.at
  have hfin : ∀ u, cfr.finish u = cfr.atR (Act.put ⟨cfr.tmps, dfr cfn.dfs⟩ o.dst u) ((SI.reg ops (i + 1) cur tl :: k).map SI.item) := by
    intro u
    rw [e4]
    simp only [List.map_cons, hit]
    rw [Frame.finish_atR, ho]; rfl
  have hstep : step P (lone fr (cfr :: (frs' ++ cs')) w) = .next (lone (cfr.finish (.bool j.isNone)) (frs' ++ cs') (w.putObj l (.loop { state := if j.isNone then .ready else .done, pending := j, fn := fnL, tmps := tmps, params := ps, assign := as, body := bd, defers := D }))) := by
    rw [e3]
    cases hL with
    | off => exact stepR_round_end hf.rnd hf.kind hend
    | ret k0 => exact stepR_round_ret hf.rnd hf.kind hend
    | exit id k0 hx => exact stepR_round_exit hf.rnd hf.kind (exitS_none hx) hend
  have hrel : Rel β (svAfter j) (.bool j.isNone) := by cases j <;> rfl
  obtain ⟨p1, p2, p3⟩ := put_spec (ds := dfr cfn.dfs) hput hc1.size hc1.slot hc1.lt hrel
  refine ⟨β, _, cfr.atR ⟨(Act.put ⟨cfr.tmps, dfr cfn.dfs⟩ o.dst (.bool j.isNone)).tmps, dfr cfn.dfs⟩ ((SI.reg ops (i + 1) cur tl :: k).map SI.item), frs', .one ?_, FrRel.of hc1.fn hc1.rnd hc1.kind p1 p3 p2 ?_, hfs', hs.put (ob := .loop { state := if j.isNone then .ready else .done, pending := j, fn := fnL, tmps := tmps, params := ps, assign := as, body := bd, defers := D }) hset' hlp trivial hβ ⟨tmps, by cases j <;> rfl, h2, h3, h4⟩ (fun _ => lp_fit)⟩
  · rw [List.cons_append, hstep, hfin, put_eq]
  · intro x hx
    cases hx with
    | head => exact hok'
    | tail _ hm => exact hc1.ok x (List.mem_cons_of_mem _ hm)

/-- The loop's end: the jump that a round has left. -/
theorem run_endR {fn : FId} {n : Nat} {sl : Slots} {k : List SI} {rest : List SFr} {hp hp' : Hp} {nx l : Nat} (i0 : Nat) {st : LoopState} {pe : Option Code} {fnL nL : Nat} {slL : Slots} {ps : Array Tmp} {as bd : Code} {D : Nat}
    (hpin : B.pin i0 = some l) (hlp : hget i0 hp = some (.lp st pe fnL nL slL ps as bd D)) (hst : st ≠ .busy) (hset' : hset i0 (.lp .exhausted pe fnL nL slL ps as bd D) hp = some hp')
    (h : Run P ro B f R ⟨⟨fn, n, sl, tdAfter pe k⟩, rest, hp', nx⟩) : Run P ro B f R ⟨⟨fn, n, sl, .endR l :: k⟩, rest, hp, nx⟩ := by
  refine Run.step (fun β w fr frs cs' hf hfs hs => ?_) h
  obtain ⟨hβ, tmps, h1, h2, h3, h4⟩ := hs.loop hpin hlp
  have hb := run_endLoop (P := P) (w := w) h1 hst
  have hst := stepR_endRangeFunc (P := P) (b := fr) (a := ⟨fr.tmps, dfr fn.dfs⟩) (k := k.map SI.item) (cs := frs ++ cs') hb
  refine ⟨β, _, fr.atR ⟨fr.tmps, dfr fn.dfs⟩ ((tdAfter pe k).map SI.item), frs, .one ?_, FrRel.of hf.fn hf.rnd hf.kind hf.size hf.slot hf.lt ?_, hfs, hs.put hset' hlp trivial hβ ⟨tmps, rfl, h2, h3, h4⟩ (fun _ => lp_fit)⟩
  · have e3 := hf.at
    rw [e3]
    simp only [List.map_cons, SI.item]
    rw [hst]
    cases pe <;> rfl
  · intro y hy
    cases pe with
    | none => exact hf.ok y (List.mem_cons_of_mem _ hy)
    | some c =>
      cases hy with
      | head => trivial
      | tail _ hm => exact hf.ok y (List.mem_cons_of_mem _ hm)

/-- The blocks of collected calls, by their names; none holds a call. -/
def Marks (B : Base) : Hp → List Nat → List Nat → Prop
  | _, [], [] => True
  | hp, j :: js, D :: ds => B.pin j = some D ∧ hget j hp = some (.obj (.deferred (some []))) ∧ Marks B (hdrop' [j] hp) js ds
  | _, _, _ => False
def dropSeq : List Nat → Hp → Hp
  | [], hp => hp
  | j :: js, hp => dropSeq js (hdrop' [j] hp)
def dropF {α : Type} : List Nat → Hp → (Hp → α) → α
  | [], hp, k => k hp
  | j :: js, hp, k => hdrop [j] hp fun hp => dropF js hp k
theorem dropF_eq {α : Type} : ∀ (js : List Nat) (hp : Hp) (k : Hp → α), dropF js hp k = k (dropSeq js hp)
  | [], _, _ => rfl
  | j :: js, hp, k => by rw [dropF, hdrop_eq, dropF_eq js]; rfl

theorem marks_steps {β : Env} {nx : Nat} : ∀ {js ds : List Nat} {hp : Hp} {w : World} {fr : Frame}, Marks B hp js ds → Sat β hp ro B nx w → fr.mode = .returning → fr.defers = dfr ds →
    ∃ w', (∀ cs, Steps P (lone fr cs w) (lone { fr with defers := [] } cs w')) ∧ Sat β (dropSeq js hp) ro B nx w'
  | [], [], hp, w, fr, _, hs, _, hd => ⟨w, fun cs => by
      have : fr = { fr with defers := [] } := by cases fr; simp only [dfr, List.map_nil] at hd; subst hd; rfl
      rw [← this]; exact Steps.refl _ _, hs⟩
  | [], _ :: _, _, _, _, h, _, _, _ => h.elim
  | _ :: _, [], _, _, _, h, _, _, _ => h.elim
  | j :: js, D :: ds, hp, w, fr, h, hs, hm, hd => by
    obtain ⟨h1, h2, h3⟩ := h
    have hβ := hs.pin _ _ h1
    obtain ⟨b, o, g1, g2, g3, g4, g5⟩ := hs.own _ _ h2 trivial
    rw [hβ] at g1; injection g1 with g1; subst g1
    have g4 : o = .deferred (some []) := g4
    subst g4
    have hk := run_takeDeferred (P := P) (w := w) g3
    have hst : ∀ cs, step P (lone fr cs w) = .next (lone { fr with defers := [] ++ dfr ds } cs (w.putObj D (.deferred none))) := fun cs =>
      step_collected (d := { target := .collected D, args := #[] }) (by rw [hm]; simp) hd rfl hk
    obtain ⟨w', q1, q2⟩ := marks_steps (js := js) (ds := ds) (fr := { fr with defers := [] ++ dfr ds }) h3 (hs.spoil h2 trivial hβ _) hm rfl
    exact ⟨w', fun cs => Steps.head (hst cs) (q1 cs), q2⟩

/-- The way out of a frame that has ranged over functions. -/
theorem out_steps {β : Env} {nx : Nat} {f0 n : Nat} {ds js : List Nat} {sl : Slots} {td : List SI} {hp : Hp} {w : World} {fr : Frame} (hf : FrRel β ⟨⟨f0, none, ds⟩, n, sl, td⟩ fr) (hs : Sat β hp ro B nx w) (htd : td = [] ∨ ∃ k, td = .code .ret :: k)
    (hm : Marks B hp js ds) {cs : List Prop} {v : SV} (hv : resV P f0 sl (dropSeq js hp) ro = some (cs, v)) (hc : conj cs) :
    ∃ fr' w' u, (∀ cs', Steps P (lone fr cs' w) (lone fr' cs' w')) ∧ fr'.fn = f0 ∧ fr'.leaving P w' (.returned u) ∧ Sat β (dropSeq js hp) ro B nx w' ∧ Rel β v u := by
  have hret : ∀ cs', step P (lone fr cs' w) = .next (lone { fr with mode := .returning } cs' w) := by
    intro cs'
    have e := hf.at
    rcases htd with rfl | ⟨k, rfl⟩
    · have := stepR_end (P := P) (b := fr) (a := ⟨fr.tmps, dfr ds⟩) (cs := cs') (w := w) hf.rnd
      rw [e]; exact this
    · have := stepR_ret (P := P) (b := fr) (a := ⟨fr.tmps, dfr ds⟩) (k := k.map SI.item) (cs := cs') (w := w) hf.rnd
      rw [e]; exact this
  obtain ⟨w', h1, h2⟩ := marks_steps (P := P) (fr := { fr with mode := .returning }) hm hs rfl hf.defers
  obtain ⟨fd, u, hfd, hres, hru⟩ := resV_run h2 (hf.rho (ds := [])) hv (all_conj hc)
  refine ⟨_, w', u, fun cs' => Steps.head (hret cs') (h1 cs'), hf.fn, ⟨rfl, rfl, hf.kind, fd, ?_, hres⟩, h2, hru⟩
  show P.funcs[fr.fn]? = _
  rw [hf.fn]; exact hfd

/-- The end of the lowest frame, after ranges over functions. -/
theorem run_retM (js : List Nat) {n : Nat} {ds : List Nat} {sl : Slots} {td : List SI} {hp hp' : Hp} {nx : Nat} {cs : List Prop} {v : SV} (htd : td = [] ∨ ∃ k, td = .code .ret :: k) (hm : Marks B hp js ds) (hd : dropF js hp some = some hp')
    (hv : resV P f sl hp' ro = some (cs, v)) (hc : conj cs)
    (hR : ∀ (β : Env) (w : World) (u : Value), Sat β hp' ro B nx w → Rel β v u → R (.returned u) w) : Run P ro B f R ⟨⟨⟨f, none, ds⟩, n, sl, td⟩, [], hp, nx⟩ := by
  rw [dropF_eq] at hd
  injection hd with hd; subst hd
  intro β w fr frs cs' hf hfs hs
  cases hfs
  obtain ⟨fr', w', u, h1, h2, h3, h4, h5⟩ := out_steps hf hs htd hm hv hc
  exact ⟨.returned u, w', fr', hR β w' u h4 h5, h1 _, h2, h3⟩

/-- A return into the caller's region. -/
theorem run_backM (js : List Nat) {f0 n : Nat} {ds : List Nat} {sl : Slots} {td : List SI} {cfn : FId} {cn : Nat} {csl csl' : Slots} {ops : Array Oper} {i : Nat} {o : Oper} {cur : List Oper} {tl : Option (List Nat)} {k : List SI} {rest : List SFr} {hp hp' : Hp} {nx : Nat} {cs : List Prop} {v : SV}
    (htd : td = [] ∨ ∃ k, td = .code .ret :: k) (hm : Marks B hp js ds) (hd : dropF js hp some = some hp') (hv : resV P f0 sl hp' ro = some (cs, v)) (hc : conj cs) (hput : put o.dst v cn csl = some csl')
    (h : Run P ro B f R ⟨⟨cfn, cn, csl', .reg ops (i + 1) cur tl :: k⟩, rest, hp', nx⟩) : Run P ro B f R ⟨⟨⟨f0, none, ds⟩, n, sl, td⟩, ⟨cfn, cn, csl, .reg ops i (o :: cur) tl :: k⟩ :: rest, hp, nx⟩ := by
  rw [dropF_eq] at hd
  injection hd with hd; subst hd
  refine Run.step (fun β w fr frs cs' hf hfs hs => ?_) h
  cases hfs with
  | cons hc1 hfs' =>
  rename_i cfr frs'
  obtain ⟨fr', w', u, h1, h2, h3, h4, h5⟩ := out_steps hf hs htd hm hv hc
  obtain ⟨ho, hok', hit⟩ := reg_ok (hc1.ok _ (List.mem_cons_self ..))
  obtain ⟨p1, p2, p3⟩ := put_spec (ds := dfr cfn.dfs) hput hc1.size hc1.slot hc1.lt h5
  have e4 := hc1.at
  refine ⟨β, w', cfr.atR ⟨(Act.put ⟨cfr.tmps, dfr cfn.dfs⟩ o.dst u).tmps, dfr cfn.dfs⟩ ((SI.reg ops (i + 1) cur tl :: k).map SI.item), frs', Steps.trans (h1 _) (.one ?_), FrRel.of hc1.fn hc1.rnd hc1.kind p1 p3 p2 ?_, hfs', h4⟩
  · have := step_leave_returned (c := cfr) (cs := frs' ++ cs') h3
    rw [List.cons_append]
    refine Eq.trans this ?_
    congr 2
    rw [e4, ← put_eq]
    simp only [List.map_cons, hit]
    rw [Frame.finish_atR, ho]; rfl
  · intro x hx
    cases hx with
    | head => exact hok'
    | tail _ hm => exact hc1.ok x (List.mem_cons_of_mem _ hm)

/-- The function that was ranged over returns. -/
theorem run_inR (js : List Nat) {f0 n l : Nat} {ds : List Nat} {sl : Slots} {td : List SI} {cfn : FId} {cn : Nat} {csl : Slots} {k : List SI} {rest : List SFr} {hp hp' : Hp} {nx : Nat} {cs : List Prop} {v : SV}
    (htd : td = [] ∨ ∃ k, td = .code .ret :: k) (hm : Marks B hp js ds) (hd : dropF js hp some = some hp') (hv : resV P f0 sl hp' ro = some (cs, v)) (hc : conj cs)
    (h : Run P ro B f R ⟨⟨cfn, cn, csl, .endR l :: k⟩, rest, hp', nx⟩) : Run P ro B f R ⟨⟨⟨f0, none, ds⟩, n, sl, td⟩, ⟨cfn, cn, csl, .inR l :: k⟩ :: rest, hp, nx⟩ := by
  rw [dropF_eq] at hd
  injection hd with hd; subst hd
  refine Run.step (fun β w fr frs cs' hf hfs hs => ?_) h
  cases hfs with
  | cons hc1 hfs' =>
  rename_i cfr frs'
  obtain ⟨fr', w', u, h1, h2, h3, h4, h5⟩ := out_steps hf hs htd hm hv hc
  have e4 := hc1.at
  refine ⟨β, w', cfr.atR ⟨cfr.tmps, dfr cfn.dfs⟩ ((SI.endR l :: k).map SI.item), frs', Steps.trans (h1 _) (.one ?_), FrRel.of hc1.fn hc1.rnd hc1.kind hc1.size hc1.slot hc1.lt ?_, hfs', h4⟩
  · have := step_leave_returned (c := cfr) (cs := frs' ++ cs') h3
    rw [List.cons_append]
    refine Eq.trans this ?_
    congr 2
    rw [e4]
    simp only [List.map_cons, SI.item]
    rw [finish_atR_inRangeFunc]; rfl
  · intro x hx
    cases hx with
    | head => trivial
    | tail _ hm => exact hc1.ok x (List.mem_cons_of_mem _ hm)
end
end Sx
