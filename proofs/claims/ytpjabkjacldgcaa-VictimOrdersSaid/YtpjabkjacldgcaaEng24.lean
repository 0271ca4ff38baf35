/- A range over a function: its loop, its rounds, its end. No condition. -/
import Derived.Test.YtpjabkjacldgcaaEng23
import Derived.RangeFuncLeaves
import Derived.RangeFuncRecord
namespace Sx
open Go

/-- The new blocks' places are pinned. -/
def Base.pin2 (B : Base) (nx D l : Nat) : Base := ⟨B.D, B.w, fun i => bif Nat.beq i nx then some D else bif Nat.beq i (nx + 1) then some l else B.pin i, fun i => bif Nat.beq i nx then 0 else bif Nat.beq i (nx + 1) then 0 else B.pin.room i⟩
theorem PinTo.pin2 {B : Base} {np : Nat} (h : PinTo B np) {nx D l : Nat} (hn : np ≤ nx) : PinTo (B.pin2 nx D l) (nx + 2) := by
  intro i hi
  have h1 : Nat.beq i nx = false := beq_false_of (by omega)
  have h2 : Nat.beq i (nx + 1) = false := beq_false_of (by omega)
  simp only [Base.pin2, h1, h2, cond_false]
  exact h i (by omega)
theorem Base.pin2_ok {B : Base} (h : B.ok) {nx D l : Nat} : (B.pin2 nx D l).ok := h

/-- A known block is written over by another object. -/
theorem Sat.put {β : Env} {hp ro : Hp} {B : Base} {nx : Nat} {w : World} (hs : Sat β hp ro B nx w) {i b : Nat} {o so : SO} {hp' : Hp} {ob : Obj} (hset' : hset i so hp = some hp') (hi : hget i hp = some o) (hlo : o.Live) (hb : β i = some b) (hor : ORel β so ob) (hl : ∀ o', ORel β o o' → Fit (β.room i) o' → Fit (β.room i) ob) :
    Sat β hp' ro B nx (w.putObj b ob) := by
  obtain ⟨b', o', k1, k2, k3, k4, k5⟩ := hs.own _ _ hi hlo
  rw [hb] at k1; injection k1 with k1; subst k1
  have hlt : b < w.heap.size := (Array.getElem?_eq_some_iff.1 k3).1
  exact ⟨hs.toMem.set hset' ⟨hi, hlo⟩ hb hor (hl _ k4 k5) (World.putObj_heap_same hlt) (fun k hk => World.putObj_heap_other hk) (by simp) rfl rfl rfl, hs.fresh⟩
theorem lp_fit {β : Env} {st : LoopState} {pe : Option Code} {fnL nL : Nat} {slL : Slots} {ps : Array Tmp} {as bd : Code} {D r : Nat} {o : Obj} {L : Loop} (h : ORel β (.lp st pe fnL nL slL ps as bd D) o) (hf : Fit r o) : Fit r (.loop L) := by
  obtain ⟨tmps, rfl, _⟩ := h
  exact ⟨trivial, hf.s⟩
/-- A known block is given up. -/
theorem Sat.spoil {β : Env} {hp ro : Hp} {B : Base} {nx : Nat} {w : World} (hs : Sat β hp ro B nx w) {i b : Nat} {o : SO} (hi : hget i hp = some o) (hlo : o.Live) (hb : β i = some b) (ob : Obj) : Sat β (hdrop' [i] hp) ro B nx (w.putObj b ob) := by
  obtain ⟨b', o', k1, k2, k3, k4, k5⟩ := hs.own _ _ hi hlo
  rw [hb] at k1; injection k1 with k1; subst k1
  have sub : ∀ j s, hget j (hdrop' [i] hp) = some s → hget j hp = some s ∧ j ≠ i := by
    intro j s hj
    rw [hdrop_get] at hj
    split at hj
    · cases hj
    · rename_i hn; exact ⟨hj, by simpa using hn⟩
  refine ⟨⟨fun j s hj hl => ?_, fun j k s t hj hk ls lt hne => hs.apart j k s t (sub j s hj).1 (sub k t hk).1 ls lt hne, hs.read, fun c oc hD => ?_, hs.os, hs.tape, hs.output, by simpa using hs.size, hs.pin⟩, hs.fresh⟩
  · obtain ⟨g1, g2⟩ := sub j s hj
    obtain ⟨c, oc, q1, q2, q3, q4, q5⟩ := hs.own j s g1 hl
    refine ⟨c, oc, q1, q2, ?_, q4, q5⟩
    rw [World.putObj_heap_other ?_]; exact q3
    intro e; subst e; exact hs.apart j i s o g1 hi hl hlo g2 (q1.trans hb.symm)
  · rw [World.putObj_heap_other ?_]; exact hs.old c oc hD
    intro e; subst e; rw [k2] at hD; cases hD

section
variable {P : Program} {ro : Hp} {B : Base} {f : FuncId} {R : Ending → World → Prop}

theorem FsRel.ok {β : Env} {ss : List SFr} {frs : List Frame} (h : FsRel β ss frs) : ss.length = frs.length := by
  induction h with
  | nil => rfl
  | cons _ _ ih => simp [ih]

/-- Entering: the loop's blocks are laid; the function is called with yield. -/
theorem run_range (hP : Named P) (hB : B.ok) {g : Operand} {ps : Array Tmp} {assign body : Code} {fn : FId} {n : Nat} {sl : Slots} {k : List SI} {rest : List SFr} {hp : Hp} {nx : Nat} {cs : List Prop} {gf : Nat} {a c : List SV} {gfn : Func} {gb : Code} {n1 n2 : Nat}
    (hrd : fn.rnd = none) (hg : evs sl g = some (cs, .clo (.func gf) a c)) (hc : conj cs) (hgf : P.funcs[gf]? = some gfn) (hgb : gfn.body = some gb)
    (e1 : natF (nx + 1) some = some n1) (e2 : natF (nx + 2) some = some n2)
    (h : ∀ D l, Run P ro (B.pin2 nx D l) f R ⟨⟨fid gf, (a ++ .clo (.yield l) [] [] :: c).length + (gfn.ntmps - (a ++ .clo (.yield l) [] [] :: c).length), enumFrom 0 (a ++ .clo (.yield l) [] [] :: c), [.code gb]⟩,
      ⟨⟨fn.f, none, D :: fn.dfs⟩, n, sl, .inR l :: k⟩ :: rest, (n1, .lp .ready none fn.f n sl ps assign body D) :: (nx, .obj (.deferred (some []))) :: hp, n2⟩) :
    Run P ro B f R ⟨⟨fn, n, sl, .code (.rangeFunc g ps assign body) :: k⟩, rest, hp, nx⟩ := by
  rw [natF_eq] at e1 e2
  injection e1 with e1; injection e2 with e2
  subst e1 e2
  intro β w fr frs cs' hf hfs hs
  have hw := evs_rel (ρ := Act.eval ⟨fr.tmps, []⟩) hf.rho hg (all_conj hc)
  obtain ⟨us, ws, hv, hu, hws⟩ := hw
  -- the two blocks
  obtain ⟨β1, l1, p1, r1, s1⟩ := hs.new (.obj (.deferred (some []))) (.deferred (some [])) hB (fun _ _ _ => rfl) trivial
  obtain ⟨β2, l2, p2, r2, s2⟩ := s1.new (.lp .ready none fn.f n sl ps assign body w.heap.size) (.loop { state := .ready, pending := none, fn := fn.f, tmps := fr.tmps, params := ps, assign := assign, body := body, defers := w.heap.size }) hB
    (fun β' hle _ => ⟨fr.tmps, rfl, hf.size, fun t v hv => Rel.mono hle _ _ (Rel.mono l1 _ _ (hf.slot t v hv)), hf.lt⟩) trivial
  have l12 : β.le β2 := Env.le_trans l1 l2
  have hsz1 : (w.alloc (.deferred (some []))).heap.size = w.heap.size + 1 := by simp [World.size_alloc]
  rw [hsz1] at p2
  have hpin : (B.pin2 nx w.heap.size (w.heap.size + 1)).pin.le β2 := by
    have key : ∀ i b, (B.pin2 nx w.heap.size (w.heap.size + 1)).pin i = some b → β2 i = some b ∧ β2.room i = (B.pin2 nx w.heap.size (w.heap.size + 1)).pin.room i := by
      intro i b hi
      simp only [Base.pin2] at hi ⊢
      cases h1 : Nat.beq i nx with
      | true => rw [h1] at hi; simp only [cond_true, Option.some.injEq] at hi; have := beq_nat h1; subst this; subst hi; exact ⟨l2 _ _ p1, (l2.r _ _ p1).trans r1⟩
      | false =>
        rw [h1] at hi; simp only [cond_false] at hi ⊢
        cases h2 : Nat.beq i (nx + 1) with
        | true => rw [h2] at hi; simp only [cond_true, Option.some.injEq] at hi; have := beq_nat h2; subst this; subst hi; exact ⟨p2, r2⟩
        | false => rw [h2] at hi; exact ⟨l12 _ _ (hs.pin i b hi), (l12.r _ _ (hs.pin i b hi)).trans (hs.pin.r i b hi)⟩
    exact ⟨fun i b h => (key i b h).1, fun i b h => (key i b h).2⟩
  have hargs : RelL β2 (a ++ .clo (.yield (w.heap.size + 1)) [] [] :: c) (us ++ Value.func (.yield (w.heap.size + 1)) #[] #[] :: ws) :=
    (RelL.mono l12 _ _ hu).append ⟨_, _, rfl, ⟨[], [], rfl, rfl, rfl⟩, RelL.mono l12 _ _ hws⟩
  have hname := hP _ _ hgf
  have hst := stepR_rangeFunc (P := P) (b := fr) (a := ⟨fr.tmps, dfr fn.dfs⟩) (k := k.map SI.item) (cs := frs ++ cs') (w := w) (g := g) (ps := ps) (assign := assign) (body := body) (l := w.heap.size + 1)
    (mark := [{ target := .collected w.heap.size, args := #[] }]) (f := gf) (args := (us ++ Value.func (.yield (w.heap.size + 1)) #[] #[] :: ws).toArray)
    (d := { target := .fn (.func gf) ws.toArray, args := us.toArray ++ #[Value.func (.yield (w.heap.size + 1)) #[] #[]] })
    (by rw [hf.rnd, hrd, hf.fn]; exact run_enterLoop_outer _ _ _ _ _)
    (by
      have hv' : Act.eval ⟨fr.tmps, dfr fn.dfs⟩ g = .func (.func gf) us.toArray ws.toArray := hv
      have hk : Act.eval ⟨fr.tmps, dfr fn.dfs⟩ (.const (.func (.yield (w.heap.size + 1)) #[] #[])) = .func (.yield (w.heap.size + 1)) #[] #[] := rfl
      simp only [rangeCall, resolve, Sem.run_bind, hv', Deferred.ofValue, Sem.run_pure, Result.andThen, List.map_toArray, List.map_cons, List.map_nil, hk]
      rfl)
    (by
      simp only [invoke, callFunc, run_program, hgf, Sem.run_bind, Sem.run_ite, hname, Bool.false_eq_true, if_false, hgb, Option.isNone_some, Result.andThen, Sem.run_pure]
      congr 2
      apply Array.ext'
      simp)
  obtain ⟨e, w2, fr2, hR, hcm, r⟩ := h w.heap.size (w.heap.size + 1) β2 _ (Frame.enter P gf (us ++ Value.func (.yield (w.heap.size + 1)) #[] #[] :: ws).toArray .normal)
    (fr.atR { tmps := fr.tmps, defers := dfr (w.heap.size :: fn.dfs) } (.inRangeFunc (w.heap.size + 1) :: k.map SI.item) :: frs) cs' (enter_rel hgf hgb hargs)
    (.cons ⟨hf.fn, hf.size, fun t v hv => Rel.mono l12 _ _ (hf.slot t v hv), hf.lt, by simp [Frame.atR, SI.item], by
      intro x hx
      cases hx with
      | head => trivial
      | tail _ hm => exact hf.ok x (List.mem_cons_of_mem _ hm), rfl, rfl, hf.kind, by show fr.roundOf = none; rw [hf.rnd, hrd]⟩ (hfs.mono l12))
    ⟨⟨s2.own, s2.apart, s2.read, s2.old, s2.os, s2.tape, s2.output, s2.size, hpin⟩, s2.fresh⟩
  refine ⟨e, w2, fr2, hR, .of_steps (.one ?_) hcm, r⟩
  have := hf.at
  rw [this]
  exact hst
end
end Sx
