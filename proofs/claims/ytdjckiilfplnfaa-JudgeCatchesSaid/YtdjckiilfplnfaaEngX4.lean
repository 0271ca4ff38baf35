/- The symbolic machine, part 4: what its steps give, proved against the model. Conditions: as each theorem says. -/
import Derived.Test.YtdjckiilfplnfaaEngX3
import Derived.Defers
import Derived.Recover
import Derived.Deep.Slices
import Derived.Maps.RangeRun
import Derived.Laws.StandIn
import Derived.Lib.SliceRun
import GoSem.Builtin.Delete
import Derived.Sort.Grow
import Derived.Laws.IdiomCopy
set_option linter.unusedSimpArgs false
set_option linter.unusedVariables false
section
namespace Sx
open Go

@[simp] def isGone : List SI → Bool
  | .gone _ :: _ => true
  | _ => false
theorem CFrRel.running {β : Env} {s : SFr} {fr : Frame} (h : isGone s.todo = false) (r : CFrRel β s fr) : FrRel β s fr := by
  unfold CFrRel at r
  split at r
  · rename_i g k e; rw [e] at h; simp at h
  · exact r
theorem CFrRel.of {β : Env} {s : SFr} {fr : Frame} (h : isGone s.todo = false) (r : FrRel β s fr) : CFrRel β s fr := by
  unfold CFrRel
  split
  · rename_i g k e; rw [e] at h; simp at h
  · exact r
/-- A frame that has stopped holds no name. -/
@[simp] def goneOk : List SI → Prop
  | .gone (.pan v _) :: _ => v.closed = true
  | _ => True
def rsM (nx : Nat) (sg : List Nat) : List SFr → List SFr → Option (List Prop)
  | [], [] => some []
  | ⟨fn, n, sl, td⟩ :: r, ⟨fn', n', sl', td'⟩ :: r' => match slM nx sg sl sl', rsM nx sg r r' with
    | some x, some y => some ((fn = fn' ∧ n = n' ∧ td = td' ∧ dfKeep nx sg fn.dfs ∧ goneOk td) :: x ++ y)
    | _, _ => none
  | _, _ => none
theorem rsM_rel {nx : Nat} {sg : List Nat} {β : Env} : ∀ {r r' : List SFr} {cs : List Prop} {frs : List Frame}, rsM nx sg r r' = some cs → All cs → FsRel β r frs → FsRel (β.via nx sg) r' frs
  | [], [], cs, frs, h, hc, hf => by cases hf; exact .nil
  | ⟨fn, n, sl, td⟩ :: r, ⟨fn', n', sl', td'⟩ :: r', cs, frs, h, hc, hf => by
    simp only [rsM] at h
    split at h <;> first | exact (none_ne h).elim | skip
    rename_i x y e1 e2
    injection h with h; subst h
    obtain ⟨rfl, rfl, rfl, hdf, hng⟩ := hc.head
    cases hf with
    | cons h1 h2 =>
    have hx : All x := fun p hp => hc p (List.mem_cons_of_mem _ (List.mem_append_left _ hp))
    have hy : All y := fun p hp => hc p (List.mem_cons_of_mem _ (List.mem_append_right _ hp))
    have sl1 : ∀ {fr : Frame}, (∀ t v, look t sl = some v → Rel β v (fr.tmps.getD t undef)) → ∀ t v, look t sl' = some v → Rel (β.via nx sg) v (fr.tmps.getD t undef) := fun hs t v hv => by
      obtain ⟨u, g1, g2⟩ := slM_spec e1 hx hv
      exact (ren_rel _ _).1 (g2 _ _ (hs t u g1))
    have sl2 : (∀ t v, look t sl = some v → t < n) → ∀ t v, look t sl' = some v → t < n := fun hs t v hv => by
      obtain ⟨u, g1, g2⟩ := slM_spec e1 hx hv
      exact hs t u g1
    refine .cons ?_ (rsM_rel e2 hy h2)
    by_cases hg : isGone td = false
    · have h1 := CFrRel.running hg h1
      exact CFrRel.of hg ⟨h1.fn, h1.size, sl1 h1.slot, sl2 h1.lt, h1.todo, h1.ok, dfKeep_rel hdf h1.defers, h1.mode, h1.kind, h1.rnd⟩
    · cases td with
      | nil => exact absurd rfl hg
      | cons z zs =>
        cases z with
        | gone g =>
          have h1 : GoneRel β ⟨fn, n, sl, .gone g :: zs⟩ g _ := h1
          refine (show GoneRel (β.via nx sg) ⟨fn, n, sl', .gone g :: zs⟩ g _ from ⟨h1.fn, h1.size, sl1 h1.slot, sl2 h1.lt, dfKeep_rel hdf h1.defers, ?_, h1.kind, h1.rnd⟩)
          cases g with
          | ret => exact h1.mode
          | pan v r =>
            obtain ⟨u, hu, hm⟩ := h1.mode
            exact ⟨u, Rel.closed v u hng hu, hm⟩
        | _ => exact absurd rfl hg
  | [], _ :: _, _, _, h, _, _ => by cases h
  | _ :: _, [], _, _, h, _, _ => by cases h

section
variable {P : Program} {ro : Hp} {B : Base} {f : FuncId} {R : Ending → World → Prop}
theorem run_weakF {np : Nat} (hpin : PinTo B np) (sg : List Nat) {fn : FId} {n : Nat} {sl sl' : Slots} {td : List SI} {rest rest' : List SFr} {hp hp' : Hp} {nx nx' : Nat} {cs ds es rs : List Prop} (hl : sg.length = nx')
    (h1 : slM nx sg sl sl' = some cs) (hr : rsM nx sg rest rest' = some rs) (h2 : hpM nx sg hp hp' = some ds) (h3 : dist nx sg (hkeys hp') = true) (h4 : roM nx sg ro = some es) (h5 : idTo nx sg np = true) (hcs : conj cs) (hrs : conj rs) (hds : conj ds) (hes : conj es)
    (h : Run P ro B f R ⟨⟨fn, n, sl', td⟩, rest', hp', nx'⟩) (hdf : dfKeep nx sg fn.dfs := by first | trivial | exact ⟨rfl, rfl, trivial⟩) : Run P ro B f R ⟨⟨fn, n, sl, td⟩, rest, hp, nx⟩ := by
  subst hl
  intro β w fr frs cs' hf hfs hs
  refine h (β.via nx sg) w fr frs cs' ⟨hf.fn, hf.size, ?_, ?_, hf.todo, hf.ok, dfKeep_rel hdf hf.defers, hf.mode, hf.kind, hf.rnd⟩ (rsM_rel hr (all_conj hrs) hfs) (Sat.rename hpin h2 h3 h4 h5 (all_conj hds) (all_conj hes) hs)
  · intro t v hv
    obtain ⟨u, e1, e2⟩ := slM_spec h1 (all_conj hcs) hv
    exact (ren_rel _ _).1 (e2 _ _ (hf.slot t u e1))
  · intro t v hv
    obtain ⟨u, e1, e2⟩ := slM_spec h1 (all_conj hcs) hv
    exact hf.lt t u e1
end
end Sx
end
section
namespace Sx
open Go

theorem conj_append : ∀ {a b : List Prop}, conj (a ++ b) → conj a ∧ conj b
  | [], b, h => ⟨trivial, h⟩
  | p :: a, b, h => by obtain ⟨h1, h2⟩ := h; obtain ⟨h3, h4⟩ := conj_append h2; exact ⟨⟨h1, h3⟩, h4⟩
def weakC (nx : Nat) (sg : List Nat) (np : Nat) (ro : Hp) (sl sl' : Slots) (rest rest' : List SFr) (hp hp' : Hp) : Option (List Prop) :=
  bif dist nx sg (hkeys hp') && idTo nx sg np then match slM nx sg sl sl', rsM nx sg rest rest', hpM nx sg hp hp', roM nx sg ro with
    | some a, some b, some c, some d => some (a ++ (b ++ (c ++ d)))
    | _, _, _, _ => none
    else none
def retC (nx : Nat) (sg : List Nat) (np : Nat) (ro hp : Hp) (o : Out) (v : SV) : Option (List Prop) :=
  bif dist nx sg (hkeys o.hp) && idTo nx sg np then match renF nx sg o.r (fun v' => eqV v' v), hpM nx sg hp o.hp, roM nx sg ro with
    | some a, some b, some c => some (a ++ (b ++ c))
    | _, _, _ => none
    else none
def callC (nx : Nat) (sg : List Nat) (nxc : Nat) (xs as : List SV) (hpc roc hp ro : Hp) : Option (List Prop) :=
  bif cover (hkeys hpc ++ hkeys roc) nxc && allLt nx sg && dist nx sg (hkeys hpc ++ hkeys roc) then match renFL nx sg xs (fun ys => eqL ys as), hpM nx sg hp hpc, orM nx sg hp ro roc with
    | some a, some b, some c => some (a ++ (b ++ c))
    | _, _, _ => none
    else none

section
variable {P : Program} {ro : Hp} {B : Base} {f : FuncId} {R : Ending → World → Prop}
theorem run_to {np : Nat} (hpin : PinTo B np) (sg : List Nat) {fn : FId} {n : Nat} {sl sl' : Slots} {td : List SI} {rest rest' : List SFr} {hp hp' : Hp} {nx nx' : Nat} {cs : List Prop} (hl : sg.length = nx')
    (h : weakC nx sg np ro sl sl' rest rest' hp hp' = some cs) (hc : conj cs) (hr : Run P ro B f R ⟨⟨fn, n, sl', td⟩, rest', hp', nx'⟩) (hdf : dfKeep nx sg fn.dfs := by first | trivial | exact ⟨rfl, rfl, trivial⟩) : Run P ro B f R ⟨⟨fn, n, sl, td⟩, rest, hp, nx⟩ := by
  unfold weakC at h
  cases hb : (dist nx sg (hkeys hp') && idTo nx sg np) with
  | false => rw [hb] at h; cases h
  | true =>
  rw [hb] at h; simp only [cond_true] at h
  simp only [Bool.and_eq_true] at hb
  split at h <;> first | exact (none_ne h).elim | skip
  rename_i a b c d e1 e2 e3 e4
  injection h with h; subst h
  obtain ⟨h1, h2⟩ := conj_append hc
  obtain ⟨h2, h3⟩ := conj_append h2
  obtain ⟨h3, h4⟩ := conj_append h3
  exact run_weakF hpin sg hl e1 e2 e3 hb.1 e4 hb.2 h1 h2 h3 h4 hr hdf

/-- An invariant I over x; μ goes down. -/
theorem run_inv {ι : Type} {np : Nat} (hpin : PinTo B np) (I : ι → Prop) (μ : ι → Nat) (slI : ι → Slots) (rsI : ι → List SFr) (hpI : ι → Hp) (nxI : Nat) (x0 : ι) (h0 : I x0) (sg : List Nat)
    {fn : FId} {n : Nat} {sl : Slots} {td : List SI} {rest : List SFr} {hp : Hp} {nx : Nat} {cs : List Prop} (hl : sg.length = nxI) (h : weakC nx sg np ro sl (slI x0) rest (rsI x0) hp (hpI x0) = some cs) (hc : conj cs)
    (step : ∀ x, I x → (∀ y, I y → μ y < μ x → Run P ro B f R ⟨⟨fn, n, slI y, td⟩, rsI y, hpI y, nxI⟩) → Run P ro B f R ⟨⟨fn, n, slI x, td⟩, rsI x, hpI x, nxI⟩) (hdf : dfKeep nx sg fn.dfs := by first | trivial | exact ⟨rfl, rfl, trivial⟩) :
    Run P ro B f R ⟨⟨fn, n, sl, td⟩, rest, hp, nx⟩ := by
  refine run_to hpin sg hl h hc ?_ hdf
  have all : ∀ (m : Nat) (x : ι), μ x < m → I x → Run P ro B f R ⟨⟨fn, n, slI x, td⟩, rsI x, hpI x, nxI⟩ := by
    intro m
    induction m with
    | zero => intro x hx; omega
    | succ m ih => exact fun x hx hI => step x hI (fun y hy hlt => ih y (by omega) hy)
  exact all (μ x0 + 1) x0 (by omega) h0

end
section
variable {ι : Type} {P : Program} {ro : Hp} {B : Base} {f : FuncId} {ψ : ι → Prop} {out : ι → Out}
theorem run_retC {np : Nat} (hpin : PinTo B np) (z : ι) (hψ : ψ z) (sg : List Nat) {n : Nat} {sl : Slots} {td : List SI} {hp : Hp} {nx : Nat} {cs ds : List Prop} {v : SV} (hl : sg.length = (out z).nx) (hv : resV P f sl hp ro = some (cs, v)) (hc : conj cs)
    (hk : retC nx sg np ro hp (out z) v = some ds) (hds : conj ds) : Run P ro B f (HEnd B.pin B ro ψ out) ⟨⟨fid f, n, sl, .code .ret :: td⟩, [], hp, nx⟩ := by
  unfold retC at hk
  cases hb : (dist nx sg (hkeys (out z).hp) && idTo nx sg np) with
  | false => rw [hb] at hk; cases hk
  | true =>
  rw [hb] at hk; simp only [cond_true] at hk
  simp only [Bool.and_eq_true] at hb
  split at hk <;> first | exact (none_ne hk).elim | skip
  rename_i a b c e1 e2 e3
  injection hk with hk; subst hk
  obtain ⟨h1, h2⟩ := conj_append hds
  obtain ⟨h2, h3⟩ := conj_append h2
  exact run_hret hpin z hψ sg hl hv e1 e2 hb.1 e3 hb.2 hc h1 h2 h3
end
theorem conj_nil : conj [] := trivial
end Sx
end
section
namespace Sx
open Go
theorem Base.pin2_le {B : Base} {np nx D l : Nat} (hpin : PinTo B np) (hn : np ≤ nx) : B.pin.le (B.pin2 nx D l).pin := by
  have key : ∀ i b, B.pin i = some b → Nat.beq i nx = false ∧ Nat.beq i (nx + 1) = false := by
    intro i b h
    have hi : i < np := by
      rcases Nat.lt_or_ge i np with g | g
      · exact g
      · rw [hpin.p i g] at h; cases h
    exact ⟨beq_false_of (by omega), beq_false_of (by omega)⟩
  refine ⟨fun i b h => ?_, fun i b h => ?_⟩
  · obtain ⟨h1, h2⟩ := key i b h
    simp only [Base.pin2, h1, h2, cond_false]; exact h
  · obtain ⟨h1, h2⟩ := key i b h
    simp only [Base.pin2, h1, h2, cond_false]
/-- B' is B with more places pinned. -/
structure More (B B' : Base) : Prop where
  D : B'.D = B.D
  w : B'.w = B.w
  pin : B.pin.le B'.pin
  kd : B'.kd = B.kd
theorem More.refl (B : Base) : More B B := ⟨rfl, rfl, Env.le_refl _, rfl⟩
theorem More.pin2 {B B' : Base} (h : More B B') {np nx D l : Nat} (hpin : PinTo B' np) (hn : np ≤ nx) : More B (B'.pin2 nx D l) :=
  ⟨h.D, h.w, Env.le_trans h.pin (Base.pin2_le hpin hn), h.kd⟩
theorem Sat.less {B B' : Base} (h : More B B') {β : Env} {hp ro : Hp} {nx : Nat} {w : World} (hs : Sat β hp ro B' nx w) : Sat β hp ro B nx w := by
  obtain ⟨D, w0, pin, kd⟩ := B
  obtain ⟨D', w0', pin', kd'⟩ := B'
  obtain ⟨h1, h2, h3, h4⟩ := h
  simp only at h1 h2 h3
  subst h1 h2
  exact ⟨⟨hs.own, hs.apart, hs.read, hs.old, hs.os, hs.tape, hs.output, hs.size, Env.le_trans h3 hs.pin⟩, hs.fresh⟩
section
variable {ι : Type} {P : Program} {ro : Hp} {B B' : Base} {f : FuncId} {ψ : ι → Prop} {out : ι → Out}
end
end Sx
end
section
namespace Sx
open Go

/-- The call that was put off is made: the frame below has stopped. -/
def enterD (P : Program) (g : Nat) (a c : List SV) (f : Nat) (r : List DF) (n : Nat) (sl : Slots) (m : Gone) (rest : List SFr) (hp : Hp) (nx : Nat) : Option Cfg :=
  match P.funcs[g]? with
  | some fn => match fn.body with
    | some b => match appL a c with
      | some xs => some ⟨⟨⟨g, none, [.late]⟩, xs.length + (fn.ntmps - xs.length), enumFrom 0 xs, [.code b]⟩, ⟨⟨f, none, r⟩, n, sl, [.gone m]⟩ :: rest, hp, nx⟩
      | none => none
    | none => none
  | none => none
/-- A panic on its way up to the frame that has put off a call. -/
def raiseT (P : Program) (v : SV) (hp : Hp) (nx : Nat) : List SFr → SFr → Option Cfg
  | rest, ⟨⟨f, none, .fn g a c :: r⟩, n, sl, _⟩ => enterD P g a c f r n sl (.pan v false) rest hp nx
  | c :: rest, ⟨⟨f, none, []⟩, _, _, _⟩ => match P.funcs[f]? with
    | some _ => bif isGone c.todo then none else raiseT P v hp nx rest c
    | none => none
  | _, _ => none
/-- The frame returns after its deferred call. -/
def settled : Gone → Bool
  | .ret => true
  | .pan _ r => r
def optC (c : Option Cfg) : Option (List Prop × Cfg) :=
  match c with
  | some c => some ([], c)
  | none => none
def backD (P : Program) (ro : Hp) (g : Nat) (gsl : Slots) (m : Gone) (f : Nat) (sl : Slots) (cfn : FId) (cn : Nat) (csl : Slots) (ops : Array Oper) (i : Nat) (o : Oper) (cur : List Oper) (tl : Option (List Nat)) (k : List SI) (rest : List SFr) (hp : Hp) (nx : Nat) : Option (List Prop × Cfg) :=
  bif settled m then match resV P g gsl hp ro, resV P f sl hp ro with
    | some (cs, _), some (ds, v) => match put o.dst v cn csl with
      | some csl' => some (cs ++ ds, ⟨⟨cfn, cn, csl', .reg ops (i + 1) cur tl :: k⟩, rest, hp, nx⟩)
      | none => none
    | _, _ => none
  else none
def xop (P : Program) (f : Nat) (ds : List DF) (n : Nat) (sl : Slots) (ops : Array Oper) (i : Nat) (o : Oper) (cur : List Oper) (tl : Option (List Nat)) (k : List SI) (rest : List SFr) (hp : Hp) (nx : Nat) : Op → Option (List Prop × Cfg)
  | .defer { callee := .value x, args := as, argTypes := _ } => match evs sl x, evList sl as.toList with
    | some (cs, .clo (.func g) a c), some (es, l) => match appL a l, put o.dst .und n sl with
      | some al, some sl' => some (cs ++ es, ⟨⟨⟨f, none, .fn g al c :: ds⟩, n, sl', .reg ops (i + 1) cur tl :: k⟩, rest, hp, nx⟩)
      | _, _ => none
    | _, _ => none
  | .panic x => match evs sl x with
    | some (cs, .ifc t v) => match raiseT P (.ifc t v) hp nx rest ⟨⟨f, none, ds⟩, n, sl, []⟩ with
      | some c' => some (cs, c')
      | none => none
    | _ => none
  | .call { callee := .builtin .recover, args := _, argTypes := _ } => match ds, rest with
    | [.late], ⟨cf, cn, csl, .gone (.pan v false) :: ck⟩ :: rest' => match put o.dst v n sl with
      | some sl' => some ([], ⟨⟨⟨f, none, ds⟩, n, sl', .reg ops (i + 1) cur tl :: k⟩, ⟨cf, cn, csl, .gone (.pan v true) :: ck⟩ :: rest', hp, nx⟩)
      | none => none
    | [.late], ⟨cf, cn, csl, .gone .ret :: ck⟩ :: rest' => match put o.dst .nilif n sl with
      | some sl' => some ([], ⟨⟨⟨f, none, ds⟩, n, sl', .reg ops (i + 1) cur tl :: k⟩, ⟨cf, cn, csl, .gone .ret :: ck⟩ :: rest', hp, nx⟩)
      | none => none
    | _, _ => none
  | _ => none
/-- A frame's end, where something was put off. -/
def xend (P : Program) (ro : Hp) : FId → Nat → Slots → List SFr → Hp → Nat → Option (List Prop × Cfg)
  | ⟨f, none, .fn g a c :: r⟩, n, sl, rest, hp, nx => optC (enterD P g a c f r n sl .ret rest hp nx)
  | ⟨g, none, [.late]⟩, _, gsl, ⟨⟨f, none, []⟩, _, sl, .gone m :: _⟩ :: ⟨cfn, cn, csl, .reg ops i (o :: cur) tl :: k⟩ :: rest, hp, nx => backD P ro g gsl m f sl cfn cn csl ops i o cur tl k rest hp nx
  | _, _, _, _, _, _ => none
def xstep (P : Program) (ro : Hp) : Cfg → Option (List Prop × Cfg)
  | ⟨⟨fn, n, sl, td⟩, rest, hp, nx⟩ => match td with
    | [] => xend P ro fn n sl rest hp nx
    | .code .ret :: _ => xend P ro fn n sl rest hp nx
    | .reg ops i (o :: cur) tl :: k => match fn with
      | ⟨f, none, ds⟩ => match guardIn ops sl o with
        | some .run => xop P f ds n sl ops i o cur tl k rest hp nx o.op
        | _ => none
      | _ => none
    | _ => none

section
variable {P : Program} {b : Frame} {a : Act} {k : List Item} {cs : List Frame} {w w' : World} {ops : Array Oper} {i : Nat} {rest : List Nat} {o : Oper}
theorem op_defer {d : Deferred} (hn : b.roundOf = none) (ho : ops[i]? = some o) (hw : Region.wanted o (yielded ops a.tmps) = true) (hr : (execOp a.eval o).run P w = .ok (.defer d) w') :
    step P (lone (b.atR a (.inRegion ops (i :: rest) :: k)) cs w) = .next (lone (b.atR (Act.put { a with defers := d :: a.defers } o.dst undef) (.inRegion ops rest :: k)) cs w') := by
  have hg := stepGR_op (P := P) (b := b) (k := k) (cs := cs) (w := w) (rest := rest) ho hw
  rw [hn, Oper.semAt_none] at hg
  have : ({ b.atR a (.inRegion ops (i :: rest) :: k) with defers := d :: a.defers } : Frame).finish undef = b.atR (Act.put { a with defers := d :: a.defers } o.dst undef) (.inRegion ops rest :: k) := by
    have := Frame.finish_atR b { a with defers := d :: a.defers } ops i rest k undef
    rw [ho] at this; exact this
  refine step_lone_go ?_
  rw [hg]; simp only [stepG.apply, Sem.runT_eq, hr, GStep.bare_after]
  exact congrArg (fun fr => GStep.go { frame := fr, callers := cs, status := .running, dying := none } w') this
theorem op_panic {v : Value} (hn : b.roundOf = none) (ho : ops[i]? = some o) (hw : Region.wanted o (yielded ops a.tmps) = true) (hr : (execOp a.eval o).run P w = .halt (.panic v) w') :
    step P (lone (b.atR a (.inRegion ops (i :: rest) :: k)) cs w) = .next (lone { b.atR a (.inRegion ops (i :: rest) :: k) with mode := .panicking [{ v := v, recovered := false }] } cs w') := by
  have hg := stepGR_op (P := P) (b := b) (k := k) (cs := cs) (w := w) (rest := rest) ho hw
  rw [hn, Oper.semAt_none] at hg
  refine step_lone_go ?_
  rw [hg, ← Frame.raise_atR]; simp [stepG.apply, hr]
theorem op_recover (hn : b.roundOf = none) (hk : b.kind = .deferred) (ho : ops[i]? = some o) (hw : Region.wanted o (yielded ops a.tmps) = true) (hr : (execOp a.eval o).run P w = .ok .recover w') {v : Value} {cs' : List Frame}
    (hc : recoverD cs = some (v, cs')) :
    step P (lone (b.atR a (.inRegion ops (i :: rest) :: k)) cs w) = .next (lone (b.atR (Act.put a o.dst v) (.inRegion ops rest :: k)) cs' w') := by
  have hg := stepGR_op (P := P) (b := b) (k := k) (cs := cs) (w := w) (rest := rest) ho hw
  rw [hn, Oper.semAt_none] at hg
  have hfin : (b.atR a (.inRegion ops (i :: rest) :: k)).finish v = b.atR (Act.put a o.dst v) (.inRegion ops rest :: k) := by rw [Frame.finish_atR, ho]; rfl
  have htr := tryRecover_deferred (fr := b.atR a (.inRegion ops (i :: rest) :: k)) hk cs
  rw [hc] at htr
  refine step_lone_go ?_
  rw [hg, ← hfin]
  simp only [Frame.atR, hn] at htr ⊢
  simp [stepG.apply, hr, htr]
theorem op_recover0 (hn : b.roundOf = none) (hk : b.kind = .deferred) (ho : ops[i]? = some o) (hw : Region.wanted o (yielded ops a.tmps) = true) (hr : (execOp a.eval o).run P w = .ok .recover w')
    (hc : recoverD cs = none) :
    step P (lone (b.atR a (.inRegion ops (i :: rest) :: k)) cs w) = .next (lone (b.atR (Act.put a o.dst .nilIface) (.inRegion ops rest :: k)) cs w') := by
  have hg := stepGR_op (P := P) (b := b) (k := k) (cs := cs) (w := w) (rest := rest) ho hw
  rw [hn, Oper.semAt_none] at hg
  have hfin : (b.atR a (.inRegion ops (i :: rest) :: k)).finish .nilIface = b.atR (Act.put a o.dst .nilIface) (.inRegion ops rest :: k) := by rw [Frame.finish_atR, ho]; rfl
  have htr := tryRecover_deferred (fr := b.atR a (.inRegion ops (i :: rest) :: k)) hk cs
  rw [hc] at htr
  refine step_lone_go ?_
  rw [hg, ← hfin]
  simp only [Frame.atR, hn] at htr ⊢
  simp [stepG.apply, hr, htr]
end

theorem enter_relK {P : Program} {β : Env} {f : Nat} {fn : Func} {b : Code} {xs : List SV} {vs : List Value} (hfn : P.funcs[f]? = some fn) (hb : fn.body = some b) (hl : RelL β xs vs) :
    FrRel β ⟨⟨f, none, [.late]⟩, xs.length + (fn.ntmps - xs.length), enumFrom 0 xs, [.code b]⟩ (Frame.enter P f vs.toArray .deferred) := by
  have h := enter_rel hfn hb hl
  have h1 := h.size; have h2 := h.slot
  refine ⟨rfl, ?_, ?_, h.lt, ?_, h.ok, rfl, rfl, rfl, rfl⟩
  · simp only [Frame.enter, hfn] at h1 ⊢; exact h1
  · simp only [Frame.enter, hfn] at h2 ⊢; exact h2
  · simp [Frame.enter, hfn, hb, SI.item]

section
variable {P : Program} {ro : Hp} {B : Base} {f : FuncId} {R : Ending → World → Prop}
theorem Gone.not_run {β : Env} {m : Gone} {u : FrameMode} (h : m.rel β u) : u ≠ .run := by
  cases m with
  | ret => have h : u = .returning := h; rw [h]; simp
  | pan v r => obtain ⟨x, _, h⟩ := h; rw [h]; simp
/-- A stopped frame makes its call. -/
theorem enterD_step (hP : Named P) {β : Env} {g : Nat} {a c : List SV} {f0 : Nat} {r : List DF} {n : Nat} {sl : Slots} {td : List SI} {m : Gone} {rest : List SFr} {hp : Hp} {nx : Nat} {c' : Cfg} (h : enterD P g a c f0 r n sl m rest hp nx = some c')
    {fr : Frame} {frs : List Frame} (hf : GoneRel β ⟨⟨f0, none, .fn g a c :: r⟩, n, sl, td⟩ m fr) (hfs : FsRel β rest frs) (cs : List Frame) (w : World) :
    ∃ fr' frs', step P (lone fr (frs ++ cs) w) = .next (lone fr' (frs' ++ cs) w) ∧ FrRel β c'.top fr' ∧ FsRel β c'.rest frs' ∧ c'.hp = hp ∧ c'.nx = nx := by
  unfold enterD at h
  split at h <;> first | exact (none_ne h).elim | skip
  rename_i fn hfn
  split at h <;> first | exact (none_ne h).elim | skip
  rename_i b hb
  split at h <;> first | exact (none_ne h).elim | skip
  rename_i xs hx
  injection h with h; subst h
  have hx := appL_spec hx; subst hx
  obtain ⟨us, ws, ds', e, hu, hw, hd⟩ := hf.defers
  have hname := hP _ _ hfn
  have hinv : (invoke (.fn (.func g) ws.toArray) us.toArray).run P w = .ok (.enter g (us ++ ws).toArray) w := by
    simp only [invoke, callFunc, run_program, hfn, Sem.run_bind, Sem.run_ite, hname, Bool.false_eq_true, if_false, hb, Option.isNone_some, Result.andThen, Sem.run_pure]
    congr 2
    apply Array.ext'
    simp
  have hst := step_defer (P := P) (fr := fr) (cs := frs ++ cs) (w := w) (Gone.not_run hf.mode) e rfl hinv
  exact ⟨_, { fr with defers := ds' } :: frs, hst, enter_relK hfn hb (hu.append hw), .cons ⟨hf.fn, hf.size, hf.slot, hf.lt, hd, hf.mode, hf.kind, hf.rnd⟩ hfs, rfl, rfl⟩
theorem raiseT_steps (hP : Named P) {β : Env} {v : SV} {u : Value} (hv : Rel β v u) {hp : Hp} {nx : Nat} : ∀ {rest : List SFr} {s : SFr} {c' : Cfg}, raiseT P v hp nx rest s = some c' → ∀ {fr : Frame} {frs : List Frame},
    GoneRel β s (.pan v false) fr → fr.mode = .panicking [{ v := u, recovered := false }] → FsRel β rest frs → ∀ (cs : List Frame) (w : World),
    ∃ fr' frs', Steps P (lone fr (frs ++ cs) w) (lone fr' (frs' ++ cs) w) ∧ FrRel β c'.top fr' ∧ FsRel β c'.rest frs' ∧ c'.hp = hp ∧ c'.nx = nx := by
  intro rest
  induction rest with
  | nil =>
    intro s c' h fr frs hf hm hfs cs w
    unfold raiseT at h
    split at h <;> first | exact (none_ne h).elim | skip
    · obtain ⟨fr', frs', h1, h2⟩ := enterD_step hP h hf hfs cs w
      exact ⟨fr', frs', .one h1, h2⟩
    · rename_i e; cases e
  | cons c rest ih =>
    intro s c' h fr frs hf hm hfs cs w
    unfold raiseT at h
    split at h <;> first | exact (none_ne h).elim | skip
    · obtain ⟨fr', frs', h1, h2⟩ := enterD_step hP h hf hfs cs w
      exact ⟨fr', frs', .one h1, h2⟩
    · rename_i e
      injection e with e1 e2
      subst e1 e2
      split at h <;> first | exact (none_ne h).elim | skip
      rename_i fd hfd
      cases hg : isGone c.todo with
      | true => rw [hg] at h; cases h
      | false =>
      rw [hg] at h; simp only [cond_false] at h
      cases hfs with
      | cons hc hfs =>
      rename_i cfr frs
      have hc := CFrRel.running hg hc
      have hgo : fr.going P w (.panicked [{ v := u, recovered := false }]) := ⟨hm, hf.defers, fd, by rw [hf.fn]; exact hfd⟩
      have hst := step_going_panicked (P := P) (fr := fr) (c := cfr) (cs := frs ++ cs) hgo
      have hmode : raised cfr.mode [{ v := u, recovered := false }] = .panicking [{ v := u, recovered := false }] := by rw [hc.mode]; rfl
      rw [hmode] at hst
      obtain ⟨fr', frs', h1, h2⟩ := ih h (fr := { cfr with mode := .panicking [{ v := u, recovered := false }] }) ⟨hc.fn, hc.size, hc.slot, hc.lt, hc.defers, ⟨u, hv, rfl⟩, hc.kind, hc.rnd⟩ rfl hfs cs w
      exact ⟨fr', frs', .head hst h1, h2⟩

/-- The end of a frame. -/
theorem stop_step {β : Env} {fid0 : FId} {n : Nat} {sl : Slots} {td : List SI} (hrnd : fid0.rnd = none) (htd : td = [] ∨ ∃ k, td = .code .ret :: k) {fr : Frame} (hf : FrRel β ⟨fid0, n, sl, td⟩ fr) (cs : List Frame) (w : World) :
    step P (lone fr cs w) = .next (lone { fr with mode := .returning } cs w) := by
  have e := hf.at
  have hr : fr.roundOf = none := hf.rnd.trans hrnd
  rcases htd with rfl | ⟨k, rfl⟩
  · have := stepR_end (P := P) (b := fr) (a := ⟨fr.tmps, fr.defers⟩) (cs := cs) (w := w) hr
    rw [e]; exact this
  · have := stepR_ret (P := P) (b := fr) (a := ⟨fr.tmps, fr.defers⟩) (k := k.map SI.item) (cs := cs) (w := w) hr
    rw [e]; exact this
theorem settled_rel {β : Env} {m : Gone} {u : FrameMode} (h : m.rel β u) (hs : settled m = true) : settle u = .returning := by
  cases m with
  | ret => have h : u = .returning := h; rw [h]; rfl
  | pan v r =>
    obtain ⟨x, _, h⟩ := h
    have hs : r = true := hs
    rw [h, hs]; rfl
/-- The deferred call ends, and with it the frame below: what it gives. -/
theorem late_end {β : Env} {g f0 n n' : Nat} {gsl sl : Slots} {td gtd : List SI} {m : Gone} {hp : Hp} {nx : Nat} {cs0 ds : List Prop} {x v : SV} (htd : td = [] ∨ ∃ k, td = .code .ret :: k)
    {fr c : Frame} {w : World} (hf : FrRel β ⟨⟨g, none, [.late]⟩, n, gsl, td⟩ fr) (hc : GoneRel β ⟨⟨f0, none, []⟩, n', sl, gtd⟩ m c) (hs : Sat β hp ro B nx w) (hset : settled m = true)
    (h1 : resV P g gsl hp ro = some (cs0, x)) (h2 : resV P f0 sl hp ro = some (ds, v)) (hc0 : All cs0) (hds : All ds) :
    ∃ u, (∀ cs, Steps P (lone fr (c :: cs) w) (lone { c with mode := .returning } cs w)) ∧ Frame.leaving P { c with mode := .returning } w (.returned u) ∧ Rel β v u := by
  obtain ⟨gd, y, hgd, hgres, _⟩ := resV_run hs (hf.rho (ds := [])) h1 hc0
  obtain ⟨fd, u, hfd, hres, hru⟩ := resV_run hs (tmps := c.tmps) (dd := []) ⟨hc.slot, fun _ => rfl, fun _ => rfl⟩ h2 hds
  refine ⟨u, fun cs => ?_, ⟨rfl, hc.defers, hc.kind, fd, by show P.funcs[c.fn]? = _; rw [hc.fn]; exact hfd, hres⟩, hru⟩
  refine .head (stop_step rfl htd hf _ _) (.one ?_)
  have hgo : Frame.going P { fr with mode := .returning } w (.returned y) := ⟨rfl, hf.defers, gd, by show P.funcs[fr.fn]? = _; rw [hf.fn]; exact hgd, hgres⟩
  have := step_going_returned (P := P) (fr := { fr with mode := .returning }) (c := c) (cs := cs) (w := w) hf.kind hgo
  rw [settled_rel hc.mode hset] at this
  exact this

theorem backD_run {g : Nat} {gn : Nat} {gsl : Slots} {td : List SI} (htd : td = [] ∨ ∃ k, td = .code .ret :: k) {m : Gone} {f0 n0 : Nat} {sl : Slots} {gk : List SI} {cfn : FId} {cn : Nat} {csl : Slots} {ops : Array Oper} {i : Nat} {o : Oper} {cur : List Oper} {tl : Option (List Nat)} {k : List SI} {rest : List SFr} {hp : Hp} {nx : Nat}
    {c' : Cfg} {cs : List Prop} (h : backD P ro g gsl m f0 sl cfn cn csl ops i o cur tl k rest hp nx = some (cs, c')) (hc : All cs) (hr : Run P ro B f R c') :
    Run P ro B f R ⟨⟨⟨g, none, [.late]⟩, gn, gsl, td⟩, ⟨⟨f0, none, []⟩, n0, sl, .gone m :: gk⟩ :: ⟨cfn, cn, csl, .reg ops i (o :: cur) tl :: k⟩ :: rest, hp, nx⟩ := by
  unfold backD at h
  cases hset : settled m with
  | false => rw [hset] at h; cases h
  | true =>
  rw [hset] at h; simp only [cond_true] at h
  split at h <;> first | exact (none_ne h).elim | skip
  rename_i cs0 x ds v e1 e2
  split at h <;> first | exact (none_ne h).elim | skip
  rename_i csl' e3
  simp only [Option.some.injEq, Prod.mk.injEq] at h; obtain ⟨rfl, rfl⟩ := h
  refine Run.step (fun β w fr frs cs hf hfs hs => ?_) hr
  cases hfs with
  | cons hg hfs =>
  rename_i gfr frs
  cases hfs with
  | cons hc1 hfs' =>
  rename_i cfr frs'
  have hg : GoneRel β _ m gfr := hg
  have hc1 : FrRel β _ cfr := hc1
  obtain ⟨u, hst, hlv, hru⟩ := late_end htd hf hg hs hset e1 e2 hc.left hc.right
  obtain ⟨ho, hok', hit⟩ := reg_ok (hc1.ok _ (List.mem_cons_self ..))
  obtain ⟨p1, p2, p3⟩ := put_spec (ds := cfr.defers) e3 hc1.size hc1.slot hc1.lt hru
  have e4 := hc1.at
  refine ⟨β, w, cfr.atR ⟨(Act.put ⟨cfr.tmps, cfr.defers⟩ o.dst u).tmps, cfr.defers⟩ ((SI.reg ops (i + 1) cur tl :: k).map SI.item), frs', Steps.trans (hst _) (.one ?_), FrRel.of hc1.fn hc1.rnd hc1.kind hc1.defers p1 p3 p2 (fun y hy => ?_), hfs', hs⟩
  · have := step_leave_returned (c := cfr) (cs := frs' ++ cs) hlv
    refine Eq.trans (by exact this) ?_
    congr 2
    rw [e4, ← put_eq]
    simp only [List.map_cons, hit]
    rw [Frame.finish_atR, ho]; rfl
  · cases hy with
    | head => exact hok'
    | tail _ hm => exact hc1.ok y (List.mem_cons_of_mem _ hm)

theorem stopD_run (hP : Named P) {f0 : Nat} {g : Nat} {a c : List SV} {r : List DF} {n : Nat} {sl : Slots} {td : List SI} (htd : td = [] ∨ ∃ k, td = .code .ret :: k) {rest : List SFr} {hp : Hp} {nx : Nat} {c' : Cfg}
    (h : enterD P g a c f0 r n sl .ret rest hp nx = some c') (hr : Run P ro B f R c') : Run P ro B f R ⟨⟨⟨f0, none, .fn g a c :: r⟩, n, sl, td⟩, rest, hp, nx⟩ := by
  refine Run.step (fun β w fr frs cs hf hfs hs => ?_) hr
  obtain ⟨fr', frs', h1, h2, h3, h4, h5⟩ := enterD_step hP h (fr := { fr with mode := .returning }) (td := td) ⟨hf.fn, hf.size, hf.slot, hf.lt, hf.defers, rfl, hf.kind, hf.rnd⟩ hfs cs w
  exact ⟨β, w, fr', frs', .head (stop_step rfl htd hf _ _) (.one h1), h2, h3, by rw [h4, h5]; exact hs⟩

theorem xop_run (hP : Named P) {f0 : Nat} {ds : List DF} {n : Nat} {sl : Slots} {ops : Array Oper} {i : Nat} {o : Oper} {cur : List Oper} {tl : Option (List Nat)} {k : List SI} {rest : List SFr} {hp : Hp} {nx : Nat} (hgd : guardIn ops sl o = some .run)
    {c' : Cfg} {cs : List Prop} (h : xop P f0 ds n sl ops i o cur tl k rest hp nx o.op = some (cs, c')) (hc : All cs) (hr : Run P ro B f R c') : Run P ro B f R ⟨⟨⟨f0, none, ds⟩, n, sl, .reg ops i (o :: cur) tl :: k⟩, rest, hp, nx⟩ := by
  generalize hop : o.op = op at h
  unfold xop at h
  split at h <;> first | exact (none_ne h).elim | skip
  · -- a call is put off
    rename_i x as ts
    split at h <;> first | exact (none_ne h).elim | skip
    rename_i cs1 g a c es l e1 e2
    split at h <;> first | exact (none_ne h).elim | skip
    rename_i al sl' e3 e4
    simp only [Option.some.injEq, Prod.mk.injEq] at h; obtain ⟨rfl, rfl⟩ := h
    have e3 := appL_spec e3; subst e3
    refine Run.step (fun β w fr frs cs hf hfs hs => ?_) hr
    obtain ⟨ho, hok', hit⟩ := reg_ok (hf.ok _ (List.mem_cons_self ..))
    have hw := guard_rel hgd hf.size hf.slot (by rw [hf.size]; exact hf.lt)
    obtain ⟨us, ws, hv, hu, hws⟩ := evs_rel hf.rho e1 hc.left
    have hl := evList_rel (ρ := Act.eval ⟨fr.tmps, fr.defers⟩) hf.rho e2 hc.right
    have hv : Act.eval ⟨fr.tmps, fr.defers⟩ x = .func (.func g) us.toArray ws.toArray := hv
    have hrun : (execOp (Act.eval ⟨fr.tmps, fr.defers⟩) o).run P w = .ok (.defer { target := .fn (.func g) ws.toArray, args := (us ++ as.toList.map (Act.eval ⟨fr.tmps, fr.defers⟩)).toArray }) w := by
      simp only [execOp, hop, Sem.run_bind, resolve, hv, Deferred.ofValue, Sem.run_pure, Result.andThen]
      congr 3
      apply Array.ext'
      simp
    obtain ⟨p1, p2, p3⟩ := put_spec (ds := ({ target := .fn (.func g) ws.toArray, args := (us ++ as.toList.map (Act.eval ⟨fr.tmps, fr.defers⟩)).toArray } : Deferred) :: fr.defers) (v := undef) (β := β) e4 hf.size hf.slot hf.lt trivial
    have hst := op_defer (P := P) (b := fr) (a := ⟨fr.tmps, fr.defers⟩) (k := k.map SI.item) (cs := frs ++ cs) (w := w) (rest := List.range' (i + 1) cur.length ++ tl.getD []) hf.rnd ho hw hrun
    refine ⟨β, w, fr.atR ⟨(Act.put ⟨fr.tmps, ({ target := .fn (.func g) ws.toArray, args := (us ++ as.toList.map (Act.eval ⟨fr.tmps, fr.defers⟩)).toArray } : Deferred) :: fr.defers⟩ o.dst undef).tmps, _⟩ ((SI.reg ops (i + 1) cur tl :: k).map SI.item), frs, .one ?_,
      FrRel.of (fn := ⟨f0, none, .fn g (a ++ l) c :: ds⟩) hf.fn hf.rnd hf.kind ⟨_, _, _, rfl, hu.append hl, hws, hf.defers⟩ p1 p3 p2 (fun y hy => ?_), hfs, hs⟩
    · have := hf.at
      rw [this, ← put_eq]
      simp only [List.map_cons, hit]
      exact hst
    · cases hy with
      | head => exact hok'
      | tail _ hm => exact hf.ok y (List.mem_cons_of_mem _ hm)
  · -- a panic
    rename_i x
    split at h <;> first | exact (none_ne h).elim | skip
    rename_i cs1 t v e1
    split at h <;> first | exact (none_ne h).elim | skip
    rename_i c1 e2
    simp only [Option.some.injEq, Prod.mk.injEq] at h; obtain ⟨rfl, rfl⟩ := h
    refine Run.step (fun β w fr frs cs hf hfs hs => ?_) hr
    obtain ⟨ho, hok', hit⟩ := reg_ok (hf.ok _ (List.mem_cons_self ..))
    have hw := guard_rel hgd hf.size hf.slot (by rw [hf.size]; exact hf.lt)
    have hrel := evs_rel (ρ := Act.eval ⟨fr.tmps, fr.defers⟩) hf.rho e1 hc
    obtain ⟨u, hv, hu⟩ := hrel
    have hrun : (execOp (Act.eval ⟨fr.tmps, fr.defers⟩) o).run P w = .halt (.panic (.iface t u)) w := by
      simp only [execOp, hop, Sem.run_bind, Instr.panic, hv]
      rfl
    have hst := op_panic (P := P) (b := fr) (a := ⟨fr.tmps, fr.defers⟩) (k := k.map SI.item) (cs := frs ++ cs) (w := w) (rest := List.range' (i + 1) cur.length ++ tl.getD []) hf.rnd ho hw hrun
    obtain ⟨fr', frs', h1, h2, h3, h4, h5⟩ := raiseT_steps hP (v := .ifc t v) (u := .iface t u) ⟨u, rfl, hu⟩ e2 (fr := { fr.atR ⟨fr.tmps, fr.defers⟩ (.inRegion ops (i :: (List.range' (i + 1) cur.length ++ tl.getD [])) :: k.map SI.item) with mode := .panicking [{ v := .iface t u, recovered := false }] })
      ⟨hf.fn, hf.size, hf.slot, hf.lt, hf.defers, ⟨_, ⟨u, rfl, hu⟩, rfl⟩, hf.kind, hf.rnd⟩ rfl hfs cs w
    refine ⟨β, w, fr', frs', .head ?_ h1, h2, h3, by rw [h4, h5]; exact hs⟩
    have := hf.at
    rw [this]
    simp only [List.map_cons, hit]
    exact hst
  · -- recover
    rename_i as ts
    have hrun : ∀ (ρ : Operand → Value) (w : World), (execOp ρ o).run P w = .ok .recover w := by
      intro ρ w
      simp only [execOp, hop, Sem.run_bind, resolve, Sem.run_pure, Result.andThen, invoke, builtin]
    split at h <;> first | exact (none_ne h).elim | skip
    · rename_i cf cn csl v ck rest'
      split at h <;> first | exact (none_ne h).elim | skip
      rename_i sl' e4
      simp only [Option.some.injEq, Prod.mk.injEq] at h; obtain ⟨rfl, rfl⟩ := h
      refine Run.step (fun β w fr frs cs hf hfs hs => ?_) hr
      cases hfs with
      | cons hg hfs =>
      rename_i gfr frs
      have hg : GoneRel β _ (.pan v false) gfr := hg
      obtain ⟨u, hu, hm⟩ := hg.mode
      obtain ⟨ho, hok', hit⟩ := reg_ok (hf.ok _ (List.mem_cons_self ..))
      have hw := guard_rel hgd hf.size hf.slot (by rw [hf.size]; exact hf.lt)
      have hst := op_recover (P := P) (b := fr) (a := ⟨fr.tmps, fr.defers⟩) (k := k.map SI.item) (cs := gfr :: (frs ++ cs)) (w := w) (rest := List.range' (i + 1) cur.length ++ tl.getD []) hf.rnd hf.kind ho hw (hrun _ _)
        (v := u) (cs' := { gfr with mode := .panicking [{ v := u, recovered := true }] } :: (frs ++ cs)) (by simp [recoverD, hm])
      obtain ⟨p1, p2, p3⟩ := put_spec (ds := fr.defers) e4 hf.size hf.slot hf.lt hu
      refine ⟨β, w, fr.atR ⟨(Act.put ⟨fr.tmps, fr.defers⟩ o.dst u).tmps, fr.defers⟩ ((SI.reg ops (i + 1) cur tl :: k).map SI.item), { gfr with mode := .panicking [{ v := u, recovered := true }] } :: frs, .one ?_,
        FrRel.of hf.fn hf.rnd hf.kind hf.defers p1 p3 p2 (fun y hy => ?_), .cons (s := ⟨cf, cn, csl, .gone (.pan v true) :: ck⟩) (GoneRel.mk hg.fn hg.size hg.slot hg.lt hg.defers ⟨u, hu, rfl⟩ hg.kind hg.rnd) hfs, hs⟩
      · have := hf.at
        rw [this, ← put_eq]
        simp only [List.map_cons, hit]
        exact hst
      · cases hy with
        | head => exact hok'
        | tail _ hm => exact hf.ok y (List.mem_cons_of_mem _ hm)
    · rename_i cf cn csl ck rest'
      split at h <;> first | exact (none_ne h).elim | skip
      rename_i sl' e4
      simp only [Option.some.injEq, Prod.mk.injEq] at h; obtain ⟨rfl, rfl⟩ := h
      refine Run.step (fun β w fr frs cs hf hfs hs => ?_) hr
      cases hfs with
      | cons hg hfs =>
      rename_i gfr frs
      have hg : GoneRel β _ .ret gfr := hg
      have hm : gfr.mode = .returning := hg.mode
      obtain ⟨ho, hok', hit⟩ := reg_ok (hf.ok _ (List.mem_cons_self ..))
      have hw := guard_rel hgd hf.size hf.slot (by rw [hf.size]; exact hf.lt)
      have hst := op_recover0 (P := P) (b := fr) (a := ⟨fr.tmps, fr.defers⟩) (k := k.map SI.item) (cs := gfr :: (frs ++ cs)) (w := w) (rest := List.range' (i + 1) cur.length ++ tl.getD []) hf.rnd hf.kind ho hw (hrun _ _)
        (by simp [recoverD, hm])
      obtain ⟨p1, p2, p3⟩ := put_spec (ds := fr.defers) (v := .nilIface) (β := β) e4 hf.size hf.slot hf.lt rfl
      refine ⟨β, w, fr.atR ⟨(Act.put ⟨fr.tmps, fr.defers⟩ o.dst .nilIface).tmps, fr.defers⟩ ((SI.reg ops (i + 1) cur tl :: k).map SI.item), gfr :: frs, .one ?_,
        FrRel.of hf.fn hf.rnd hf.kind hf.defers p1 p3 p2 (fun y hy => ?_), .cons (s := ⟨cf, cn, csl, .gone .ret :: ck⟩) hg hfs, hs⟩
      · have := hf.at
        rw [this, ← put_eq]
        simp only [List.map_cons, hit]
        exact hst
      · cases hy with
        | head => exact hok'
        | tail _ hm => exact hf.ok y (List.mem_cons_of_mem _ hm)

theorem xend_run (hP : Named P) {fn : FId} {n : Nat} {sl : Slots} {td : List SI} (htd : td = [] ∨ ∃ k, td = .code .ret :: k) {rest : List SFr} {hp : Hp} {nx : Nat} {c' : Cfg} {cs : List Prop} (h : xend P ro fn n sl rest hp nx = some (cs, c')) (hc : All cs) (hr : Run P ro B f R c') : Run P ro B f R ⟨⟨fn, n, sl, td⟩, rest, hp, nx⟩ := by
  unfold xend at h
  have opt : ∀ {x : Option Cfg}, optC x = some (cs, c') → x = some c' := by
    intro x hx
    unfold optC at hx
    split at hx <;> first | exact (none_ne hx).elim | skip
    simp only [Option.some.injEq, Prod.mk.injEq] at hx
    rw [hx.2]
  split at h <;> first | exact (none_ne h).elim | skip
  · exact stopD_run hP htd (opt h) hr
  · exact backD_run htd h hc hr
theorem xstep_run (hP : Named P) {c c' : Cfg} {cs : List Prop} (h : xstep P ro c = some (cs, c')) (hc : All cs) (hr : Run P ro B f R c') : Run P ro B f R c := by
  unfold xstep at h
  split at h
  split at h <;> first | exact (none_ne h).elim | skip
  · exact xend_run hP (.inl rfl) h hc hr
  · exact xend_run hP (.inr ⟨_, rfl⟩) h hc hr
  · split at h <;> first | exact (none_ne h).elim | skip
    split at h <;> first | exact (none_ne h).elim | skip
    rename_i e
    exact xop_run hP e h hc hr

end
section
variable {ι : Type} {P : Program} {ro : Hp} {B : Base} {f : FuncId} {ψ : ι → Prop} {out : ι → Out}
end
end Sx
end
section
namespace Sx
open Go

/-- Blocks of at most c operations from the m-th on. -/
def tryBlk (P : Program) (M : Mode) (ro : Hp) (T : List (List Nat)) (ops : Array Oper) (n m nx : Nat) (sl : Slots) (hp : Hp) (size : Nat) (rest : List Oper) : Nat → Option (List Prop × Slots × Hp × Nat)
  | 0 => none
  | b + 1 => match dblk P M ro ops n (rest.take (b + 1)) nx sl hp [] with
    | some (cs, sl', hp', l) => bif indepAll T m l && barAll T m (b + 1) (m + (b + 1)) (size - (m + (b + 1))) then some (cs, sl', hp', b + 1) else tryBlk P M ro T ops n m nx sl hp size rest b
    | none => tryBlk P M ro T ops n m nx sl hp size rest b
/-- Each of the last operations waits for the one before it. -/
def chain1 (T : List (List Nat)) (size : Nat) : Nat → Nat → Bool
  | 0, m => Nat.beq m size
  | fuel + 1, m => Nat.ble (m + 1) size && barAll T m 1 (m + 1) (size - (m + 1)) && chain1 T size fuel (m + 1)
/-- All blocks of a region from the m-th operation on, or up to its last operations. -/
def drawAll (P : Program) (M : Mode) (ro : Hp) (T : List (List Nat)) (ops : Array Oper) (n : Nat) : Nat → Nat → Nat → Slots → Hp → List Prop → Option (List Prop × Slots × Hp × Nat × Nat)
  | 0, _, _, _, _, _ => none
  | fuel + 1, m, nx, sl, hp, acc => bif Nat.beq m ops.size then some (acc, sl, hp, nx, m) else
    match tryBlk P M ro T ops n m nx sl hp ops.size (ops.toList.drop m) (ops.size - m) with
    | some (cs, sl', hp', b) => match pushAll cs acc with
      | [] => natF (m + b) fun m' => natF (nx + b) fun nx' => drawAll P M ro T ops n fuel m' nx' sl' hp' []
      | p :: ps => natF (m + b) fun m' => natF (nx + b) fun nx' => drawAll P M ro T ops n fuel m' nx' sl' hp' (p :: ps)
    | none => bif barRow T 0 0 0 && chain1 T ops.size (ops.size - m) m then some (acc, sl, hp, nx, m) else none

def stepD (P : Program) (M : Mode) (ro : Hp) (c : Cfg) : Option (List Prop × Cfg) :=
  match sstep P M ro c with
  | some r => some r
  | none => match c with
    | ⟨⟨fn, n, sl, .code (.region _ ops true) :: k⟩, rest, hp, nx⟩ => match closeGo [] ops.toList with
      | some T => match drawAll P M ro T ops n (ops.size + 1) 0 nx sl hp [] with
        | some (cs, sl', hp', nx', m') => some (cs, ⟨⟨fn, n, sl', .reg ops m' (ops.toList.drop m') none :: k⟩, rest, hp', nx'⟩)
        | none => none
      | none => none
    | c => xstep P ro c
def execD (P : Program) (M : Mode) (ro : Hp) : Nat → List Prop → Cfg → List Prop × Cfg
  | 0, acc, c => (acc, c)
  | n + 1, acc, c => match stepD P M ro c with
    | none => (acc, c)
    | some (cs, c') => match pushAll cs acc with
      | [] => execD P M ro n [] c'
      | p :: ps => execD P M ro n (p :: ps) c'

theorem all_push {cs acc : List Prop} (h : All (pushAll cs acc)) : All cs ∧ All acc :=
  ⟨fun p hp => h p (pushAll_mem (.inl hp)), fun p hp => h p (pushAll_mem (.inr hp))⟩
theorem conj_of_all : ∀ {cs : List Prop}, All cs → conj cs
  | [], _ => trivial
  | _ :: _, h => ⟨h.head, conj_of_all h.tail⟩

section
variable {P : Program} {M : Mode} {ro : Hp} {B : Base} {f : FuncId} {R : Ending → World → Prop}

theorem tryBlk_spec {T : List (List Nat)} {ops : Array Oper} {n m nx : Nat} {sl : Slots} {hp : Hp} {size : Nat} {rest : List Oper} : ∀ {c : Nat} {cs : List Prop} {sl' : Slots} {hp' : Hp} {b : Nat},
    tryBlk P M ro T ops n m nx sl hp size rest c = some (cs, sl', hp', b) → b ≤ c ∧ ∃ l, dblk P M ro ops n (rest.take b) nx sl hp [] = some (cs, sl', hp', l) ∧ indepAll T m l = true ∧ barAll T m b (m + b) (size - (m + b)) = true
  | 0, cs, sl', hp', b, h => by cases h
  | c + 1, cs, sl', hp', b, h => by
    simp only [tryBlk] at h
    split at h
    · rename_i cs1 sl1 hp1 l e
      cases hb : (indepAll T m l && barAll T m (c + 1) (m + (c + 1)) (size - (m + (c + 1)))) with
      | true =>
        rw [hb] at h
        simp only [cond_true, Option.some.injEq, Prod.mk.injEq] at h
        obtain ⟨rfl, rfl, rfl, rfl⟩ := h
        rw [Bool.and_eq_true] at hb
        exact ⟨Nat.le_refl _, l, e, hb.1, hb.2⟩
      | false =>
        rw [hb] at h
        obtain ⟨h1, h2⟩ := tryBlk_spec h
        exact ⟨by omega, h2⟩
    · obtain ⟨h1, h2⟩ := tryBlk_spec h
      exact ⟨by omega, h2⟩

theorem drawAll_acc {T : List (List Nat)} {ops : Array Oper} {n : Nat} : ∀ {fuel m nx : Nat} {sl sl' : Slots} {hp hp' : Hp} {acc cs : List Prop} {nx' m' : Nat},
    drawAll P M ro T ops n fuel m nx sl hp acc = some (cs, sl', hp', nx', m') → All cs → All acc
  | 0, m, nx, sl, sl', hp, hp', acc, cs, nx', m', h, hc => by cases h
  | fuel + 1, m, nx, sl, sl', hp, hp', acc, cs, nx', m', h, hc => by
    simp only [drawAll] at h
    cases hb : Nat.beq m ops.size with
    | true =>
      rw [hb] at h
      simp only [cond_true, Option.some.injEq, Prod.mk.injEq] at h
      obtain ⟨rfl, rfl, rfl, rfl, rfl⟩ := h
      exact hc
    | false =>
      rw [hb] at h
      simp only [cond_false] at h
      split at h
      case' h_2 =>
        cases hb2 : (barRow T 0 0 0 && chain1 T ops.size (ops.size - m) m) with
        | false => rw [hb2] at h; cases h
        | true =>
          rw [hb2] at h
          simp only [cond_true, Option.some.injEq, Prod.mk.injEq] at h
          obtain ⟨rfl, rfl, rfl, rfl, rfl⟩ := h
          exact hc
      rename_i cs1 sl1 hp1 b e
      simp only [natF_eq] at h
      split at h
      · rename_i e2
        have := drawAll_acc h hc
        rw [← e2] at this
        exact (all_push this).2
      · rename_i q qs e2
        have := drawAll_acc h hc
        rw [← e2] at this
        exact (all_push this).2

theorem goF_chain {ops : Array Oper} {T : List (List Nat)} (hT : TOk ops T) : ∀ {fuel m : Nat} (t : Nat), chain1 T ops.size fuel m = true → goF ops m t = List.range' m fuel ∧ m + fuel = ops.size
  | 0, m, t, h => by
    have hm := beq_nat h
    refine ⟨?_, by omega⟩
    unfold goF; rw [hm]; simp [Region.linearise.go]
  | fuel + 1, m, t, h => by
    simp only [chain1, Bool.and_eq_true] at h
    have hm := ble_nat h.1.1
    obtain ⟨h1, h2⟩ := goF_chain hT (m := m + 1) t h.2
    have hg := goF_one (t := t) hT (by omega : m < ops.size) (fun y h1 h2 => by
      have := barAll_spec h.1.2 y h1 (by omega) 0 (by omega)
      simpa using this)
    rw [hg, h1, List.range'_succ]
    exact ⟨rfl, by omega⟩
theorem run_chain {fn : FId} {n : Nat} {sl : Slots} {ops : Array Oper} {m t : Nat} {k : List SI} {rest : List SFr} {hp : Hp} {nx : Nat} {T : List (List Nat)} (hT : closeGo [] ops.toList = some T) (hch : chain1 T ops.size (ops.size - m) m = true)
    (h : Run P ro B f R ⟨⟨fn, n, sl, .reg ops m (ops.toList.drop m) none :: k⟩, rest, hp, nx⟩) : Run P ro B f R ⟨⟨fn, n, sl, .reg ops m [] (some (goF ops m t)) :: k⟩, rest, hp, nx⟩ := by
  obtain ⟨hg, hs⟩ := goF_chain (tok_of hT) t hch
  intro β w fr frs cs hf hfs hs
  refine h β w fr frs cs { hf with todo := ?_, ok := ?_ } hfs hs
  · rw [hf.todo]; simp [SI.item, hg]
  · intro y hy
    cases hy with
    | head => intro i hi; rw [List.getElem?_drop]; simp
    | tail _ hm => exact hf.ok y (List.mem_cons_of_mem _ hm)

theorem run_drawAll (hP : Named P) (hB : B.ok) (hM : SumOk P M.sum) {T : List (List Nat)} {ops : Array Oper} (hT : closeGo [] ops.toList = some T) {fn : FId} {n : Nat} {k : List SI} {rest : List SFr} :
    ∀ {fuel m nx : Nat} {sl sl' : Slots} {hp hp' : Hp} {acc cs : List Prop} {nx' m' : Nat}, drawAll P M ro T ops n fuel m nx sl hp acc = some (cs, sl', hp', nx', m') → All cs → m ≤ ops.size →
    Run P ro B f R ⟨⟨fn, n, sl', .reg ops m' (ops.toList.drop m') none :: k⟩, rest, hp', nx'⟩ → ∀ t, Run P ro B f R ⟨⟨fn, n, sl, .reg ops m [] (some (goF ops m t)) :: k⟩, rest, hp, nx⟩
  | 0, m, nx, sl, sl', hp, hp', acc, cs, nx', m', h, hc, hm, hr, t => by cases h
  | fuel + 1, m, nx, sl, sl', hp, hp', acc, cs, nx', m', h, hc, hm, hr, t => by
    have h0 := h
    simp only [drawAll] at h
    cases hb : Nat.beq m ops.size with
    | true =>
      rw [hb] at h
      simp only [cond_true, Option.some.injEq, Prod.mk.injEq] at h
      obtain ⟨rfl, rfl, rfl, rfl, rfl⟩ := h
      refine run_drawE hb ?_
      have e : ops.toList.drop m = [] := by rw [beq_nat hb]; simp
      rw [e] at hr
      exact hr
    | false =>
      rw [hb] at h
      simp only [cond_false] at h
      split at h
      case' h_2 =>
        cases hb2 : (barRow T 0 0 0 && chain1 T ops.size (ops.size - m) m) with
        | false => rw [hb2] at h; cases h
        | true =>
          rw [hb2] at h
          simp only [cond_true, Option.some.injEq, Prod.mk.injEq] at h
          obtain ⟨rfl, rfl, rfl, rfl, rfl⟩ := h
          exact run_chain hT (Bool.and_eq_true_iff.1 hb2).2 hr
      rename_i cs1 sl1 hp1 b e
      simp only [natF_eq] at h
      obtain ⟨g1, l, g2, g3, g4⟩ := tryBlk_spec e
      have hle : m + b ≤ ops.size := by omega
      have key : ∀ {acc'}, drawAll P M ro T ops n fuel (m + b) (nx + b) sl1 hp1 acc' = some (cs, sl', hp', nx', m') → pushAll cs1 acc = acc' →
          Run P ro B f R ⟨⟨fn, n, sl, .reg ops m [] (some (goF ops m t)) :: k⟩, rest, hp, nx⟩ := by
        intro acc' h1 h2
        have hacc := drawAll_acc h1 hc
        rw [← h2] at hacc
        refine run_draw (M := M) b hP hB hM hT g2 (Nat.ble_eq_true_of_le hle) g3 g4 (conj_of_all (all_push hacc).1) (fun t' => ?_)
        exact run_drawAll hP hB hM hT h1 hc hle hr t'
      split at h
      · rename_i e2; exact key h e2
      · rename_i q qs e2; exact key h e2

theorem stepD_run (hmix : P.follows .mixedOrders = true) (hP : Named P) (hB : B.ok) (hM : SumOk P M.sum) {c c' : Cfg} {cs : List Prop} (h : stepD P M ro c = some (cs, c')) (hc : All cs) (hr : Run P ro B f R c') : Run P ro B f R c := by
  unfold stepD at h
  split at h
  · rename_i r e
    injection h with h; subst h
    exact sstep_run hP hB hM e hc hr
  · split at h
    case' h_2 => exact xstep_run hP h hc hr
    rename_i e
    split at h <;> first | exact (none_ne h).elim | skip
    rename_i T hT
    split at h <;> first | exact (none_ne h).elim | skip
    rename_i cs1 sl1 hp1 nx1 m1 e1
    simp only [Option.some.injEq, Prod.mk.injEq] at h
    obtain ⟨rfl, rfl⟩ := h
    exact run_draw0 hmix (run_drawAll hP hB hM hT e1 hc (Nat.zero_le _) hr)

theorem execD_acc : ∀ {n : Nat} {acc : List Prop} {c : Cfg} {p : Prop}, p ∈ acc → p ∈ (execD P M ro n acc c).1
  | 0, acc, c, p, h => h
  | n + 1, acc, c, p, h => by
    simp only [execD]
    split
    · exact h
    · rename_i cs c' _
      have hm : p ∈ pushAll cs acc := pushAll_mem (.inr h)
      split
      · rename_i e; rw [e] at hm; cases hm
      · rename_i q qs e; rw [e] at hm; exact execD_acc hm
theorem execD_run (hstep : ∀ {c c' : Cfg} {cs : List Prop}, stepD P M ro c = some (cs, c') → All cs → Run P ro B f R c' → Run P ro B f R c) :
    ∀ {n : Nat} {acc cs : List Prop} {c c' : Cfg}, execD P M ro n acc c = (cs, c') → All cs → Run P ro B f R c' → Run P ro B f R c
  | 0, acc, cs, c, c', h, hc, hr => by simp only [execD, Prod.mk.injEq] at h; obtain ⟨rfl, rfl⟩ := h; exact hr
  | n + 1, acc, cs, c, c', h, hc, hr => by
    have h' := h
    simp only [execD] at h
    split at h
    · simp only [Prod.mk.injEq] at h; obtain ⟨rfl, rfl⟩ := h; exact hr
    · rename_i ds c1 e1
      refine hstep e1 ?_ ?_
      · intro p hp
        apply hc
        have hm : p ∈ pushAll ds acc := pushAll_mem (.inl hp)
        split at h
        · rename_i e; rw [e] at hm; cases hm
        · rename_i q qs e
          rw [e] at hm
          have := execD_acc (P := P) (M := M) (ro := ro) (n := n) (c := c1) hm
          rw [h] at this; exact this
      · split at h
        · exact execD_run hstep h hc hr
        · exact execD_run hstep h hc hr

/-- The rest of a stretch of code. -/
def execG (P : Program) (M : Mode) (ro : Hp) (m : Nat) (cs0 : List Prop) (c0 : Cfg) : List Prop × Cfg :=
  match pushAll cs0 [] with
  | [] => execD P M ro m [] c0
  | p :: ps => execD P M ro m (p :: ps) c0
theorem execG_eq (P : Program) (M : Mode) (ro : Hp) (m : Nat) (cs0 : List Prop) (c0 : Cfg) : execG P M ro m cs0 c0 = execD P M ro m (pushAll cs0 []) c0 := by
  unfold execG; split <;> rename_i e <;> rw [e]
/-- A stretch of code: at least one step. -/
theorem run_go (hmix : P.follows .mixedOrders = true) (hP : Named P) (hB : B.ok) (hM : SumOk P M.sum) (m : Nat) {cs0 cs : List Prop} {c c0 c' : Cfg} (h0 : stepD P M ro c = some (cs0, c0)) (h : execG P M ro m cs0 c0 = (cs, c')) (hc : conj cs)
    (hr : Run P ro B f R c') : Run P ro B f R c := by
  rw [execG_eq] at h
  have hA := all_conj hc
  have h2 : ∀ p ∈ pushAll cs0 [], p ∈ cs := fun p hp => by
    have := execD_acc (P := P) (M := M) (ro := ro) (n := m) (c := c0) hp
    rw [h] at this; exact this
  refine stepD_run hmix hP hB hM h0 (fun p hp => hA p (h2 p (pushAll_mem (.inl hp)))) ?_
  exact execD_run (fun h hc hr => stepD_run hmix hP hB hM h hc hr) h hA hr

end
end Sx
end
section
namespace Sx
open Go Go.ChangeShapes Go.WideShapes
section
variable {H : Type} {enc : TypeId × Value → H} {P : Program} {w : World}
/-- An environment of one block. -/
def Env.one (b : Nat) : Env := ⟨fun i => match i with | 0 => some b | _ => none, fun _ => 0⟩
theorem rel_nilsq {β : Env} {off sz : Nat} : Rel β (.sq 0 off 0 sz 0 .no) (.slice none 0 0) :=
  ⟨none, 0, rfl, fun _ => rfl, fun h => (by cases h), fun h => (by cases h), fun h => absurd h (Nat.lt_irrefl 0)⟩
end
end Sx
end
section
namespace Sx
open Go
/-- The frames with other slots. -/
def reSl : List SFr → List Slots → List SFr
  | ⟨fn, n, _, td⟩ :: r, s :: ss => ⟨fn, n, s, td⟩ :: reSl r ss
  | r, _ => r
/-- The blocks ks as they are, and acc. -/
def pickH (hp : Hp) (acc : Hp) : List Nat → Hp
  | [] => acc
  | k :: ks => match hget k hp with
    | some o => (k, o) :: pickH hp acc ks
    | none => pickH hp acc ks
section
variable {P : Program} {ro : Hp} {B B' : Base} {f : FuncId} {R : Ending → World → Prop}
theorem run_invK {ι : Type} {np : Nat} (hpin : PinTo B np) (I : ι → Prop) (μ : ι → Nat) (slI : ι → Slots) (rsI : ι → List Slots) (ks : List Nat) (hpI : ι → Hp) (nxI : Nat) (x0 : ι) (h0 : I x0) (sg : List Nat)
    {fn : FId} {n : Nat} {sl : Slots} {td : List SI} {rest : List SFr} {hp : Hp} {nx : Nat} {cs : List Prop} (hl : sg.length = nxI) (h : weakC nx sg np ro sl (slI x0) rest (reSl rest (rsI x0)) hp (pickH hp (hpI x0) ks) = some cs) (hc : conj cs)
    (step : ∀ x, I x → (∀ y, I y → μ y < μ x → Run P ro B f R ⟨⟨fn, n, slI y, td⟩, reSl rest (rsI y), pickH hp (hpI y) ks, nxI⟩) → Run P ro B f R ⟨⟨fn, n, slI x, td⟩, reSl rest (rsI x), pickH hp (hpI x) ks, nxI⟩) (hdf : dfKeep nx sg fn.dfs := by first | trivial | exact ⟨rfl, rfl, trivial⟩) :
    Run P ro B f R ⟨⟨fn, n, sl, td⟩, rest, hp, nx⟩ :=
  run_inv hpin I μ slI (fun x => reSl rest (rsI x)) (fun x => pickH hp (hpI x) ks) nxI x0 h0 sg hl h hc step hdf
/-- Pins are given up. -/
theorem run_unpin (hM : More B B') {c : Cfg} (h : Run P ro B f R c) : Run P ro B' f R c := by
  intro β w fr frs cs hf hfs hs hcs
  rw [hM.kd] at hcs ⊢
  exact h β w fr frs cs hf hfs (hs.less hM) hcs
/-- A run that two branches come to: its continuation is found where it is first used. -/
theorem run_share {N : Nat} {TD : List SI} (c1 : Nat → List SI → Cfg) {Q : Prop} (main : Run P ro B f R (c1 N TD) → Q) (proof : Run P ro B f R (c1 N TD)) : Q := main proof
end
end Sx
end
section
namespace Sx
open Go

/-- Entries at the keys of h, and no others. -/
structure Keys (q : IntKind) (h : Int → Bool) (es : Array MapEntry) (clock : Nat) : Prop where
  st : MapKept.Stamped es clock
  ent : ∀ x ∈ es.toList, ∃ a, x.key = .int q a ∧ h a = true
  has : ∀ a, h a = true → ∃ x ∈ es.toList, x.key = .int q a
theorem MRel.keys {β : Env} {q : IntKind} {h : Int → Bool} {E : MEl} {es : Array MapEntry} {c : Nat} (r : MRel β q h E es c) : Keys q h es c :=
  ⟨r.st, fun x hx => let ⟨a, h1, h2, _⟩ := r.ent x hx; ⟨a, h1, h2⟩, r.has⟩
/-- S are the keys that a range has met. -/
def SeenIs (q : IntKind) (es : Array MapEntry) (seen : Array Nat) (S : Int → Bool) : Prop := ∀ x ∈ es.toList, ∀ a, x.key = .int q a → seen.contains x.born = S a
/-- The key that it met last. -/
def LastIs (q : IntKind) (es : Array MapEntry) (seen : Array Nat) (a : Int) : Prop := ∃ e ∈ es.toList, ∃ s : Array Nat, seen = s.push e.born ∧ e.key = .int q a
theorem born_inj {es : Array MapEntry} {c : Nat} (h : MapKept.Stamped es c) {x y : MapEntry} (hx : x ∈ es.toList) (hy : y ∈ es.toList) (e : x.born = y.born) : x = y := by
  obtain ⟨i, hi⟩ := List.getElem?_of_mem hx
  obtain ⟨j, hj⟩ := List.getElem?_of_mem hy
  have q1 : (es.toList.map (·.born))[i]? = some x.born := by rw [List.getElem?_map, hi]; rfl
  have q2 : (es.toList.map (·.born))[j]? = some x.born := by rw [List.getElem?_map, hj, e]; rfl
  have l1 := (List.getElem?_eq_some_iff.1 q1).1
  have := (List.getElem?_inj l1 h.2.1).1 (q1.trans q2.symm)
  subst this
  rw [hi] at hj; injection hj
theorem key_inj {es : Array MapEntry} {c : Nat} (h : MapKept.Stamped es c) {x y : MapEntry} (hx : x ∈ es.toList) (hy : y ∈ es.toList) (e : x.key = y.key) : x = y := by
  obtain ⟨i, hi⟩ := List.getElem?_of_mem hx
  obtain ⟨j, hj⟩ := List.getElem?_of_mem hy
  have q1 : (es.toList.map (·.key))[i]? = some x.key := by rw [List.getElem?_map, hi]; rfl
  have q2 : (es.toList.map (·.key))[j]? = some x.key := by rw [List.getElem?_map, hj, e]; rfl
  have l1 := (List.getElem?_eq_some_iff.1 q1).1
  have := (List.getElem?_inj l1 h.2.2).1 (q1.trans q2.symm)
  subst this
  rw [hi] at hj; injection hj
theorem filter_lt {α : Type} {p p' : α → Bool} (hle : ∀ x, p x = true → p' x = true) {e : α} (h1 : p e = false) (h2 : p' e = true) : ∀ l : List α, e ∈ l → (l.filter p).length < (l.filter p').length
  | [], h => by cases h
  | x :: l, h => by
    have hl : (l.filter p).length ≤ (l.filter p').length := by
      clear h
      induction l with
      | nil => simp
      | cons y l ih =>
        simp only [List.filter_cons]
        cases hp : p y with
        | true => rw [hle y hp]; simpa using ih
        | false => cases p' y <;> simp <;> omega
    simp only [List.filter_cons]
    cases h with
    | head => rw [h1, h2]; simp; omega
    | tail _ hm =>
      have := filter_lt hle h1 h2 l hm
      cases hp : p x with
      | true => rw [hle x hp]; simpa using this
      | false => cases p' x <;> simp <;> omega
theorem left_push {es : Array MapEntry} {seen : Array Nat} {e : MapEntry} (he : e ∈ es.toList) (hn : seen.contains e.born = false) : (leftOf es (seen.push e.born)).size < (leftOf es seen).size := by
  have hsz : ∀ seen : Array Nat, (leftOf es seen).size = (es.toList.filter fun x => !seen.contains x.born).length := fun seen => by
    unfold leftOf; rw [← Array.length_toList, Array.toList_filter]
  rw [hsz, hsz]
  exact filter_lt (p := fun x => !(seen.push e.born).contains x.born) (p' := fun x => !seen.contains x.born) (fun x h => by
    have hp : (seen.push e.born).contains x.born = (seen.contains x.born || (x.born == e.born)) := by rw [Array.contains_push]
    simp only [hp, Bool.not_or, Bool.and_eq_true] at h
    exact h.1) (by simp [Array.contains_push]) (by rw [hn]; rfl) _ he

section
variable {P : Program} {M : Mode} {ro : Hp} {B : Base} {f : FuncId} {R : Ending → World → Prop}

def isMapB (P : Program) (t : TypeId) : Bool := match P.underlying t with
  | some (.map _ _) => true
  | _ => false
theorem isMapB_spec {t : TypeId} (h : isMapB P t = true) : ∃ k e, P.underlying t = some (.map k e) := by
  unfold isMapB at h
  split at h
  · rename_i k e hu; exact ⟨k, e, hu⟩
  · cases h

/-- maps.clone: a new map with the same entries. -/
structure IsClone (P : Program) (g : Nat) (gf : Func) : Prop where
  at_ : P.funcs[g]? = some gf
  name : (gf.name == "runtime.NumGoroutine") = false
  body : gf.body.isNone = true
  nxt : Extern.findNext gf = none
  fnd : Extern.find gf = some Extern.MapsClone.clone
def cloneArg (sl : Slots) : Op → Option (List Prop × Nat × TypeId × Nat)
  | .call { callee := .value (.func g), args := as, argTypes := _ } => match evList sl as.toList with
    | some (cs, [.ifc t (.mp i)]) => some (cs, g, t, i)
    | _ => none
  | _ => none
end
end Sx
end
section
namespace Sx
open Go

/-- Calls that make one block: what they give, and the block, under the name 0. -/
abbrev Mk := Nat → List SV → Option (SV × SO)
def MkOk (P : Program) (mk : Mk) : Prop := ∀ f xs v so, mk f xs = some (v, so) → closedL xs = true ∧ so.Live ∧ HC P f xs [] [] 0 (fun _ : Unit => True) fun _ => ⟨v, [(0, so)], 1⟩
/-- An insertion's key and value, kept in its record. -/
def insOf (d : DR) : Option (Int × SV) :=
  match d.v with
  | .tup [.und, .int _ n, v] => some (n, v)
  | _ => none
def insM (P : Program) (ops : Array Oper) (q : IntKind) (μ : Nat) (o : Oper) (sl : Slots) (t : TypeId) (m k x : Operand) : Option (List Prop × DR) :=
  match o.dst, thin (opSlots ops o) sl with
  | none, some slv => match mputOp P slv t m k x with
    | some (cs, i, q', n, v) => bif Nat.beq i μ && keq q q' then v.force fun v => some (cs, ⟨opSlots ops o, none, [], [], [], .tup [.und, .int q n, v]⟩) else none
    | none => none
  | _, _ => none
def mkM (P : Program) (ops : Array Oper) (mk : Mk) (idn : Nat) (o : Oper) (sl : Slots) : Option (List Prop × DR) :=
  match thin (opSlots ops o) sl with
  | some slv => match callee P slv o.op with
    | some (cs, f, _, _, xs) => match mk f xs with
      | some (v, so) => renF idn [idn] v fun v => renO idn [idn] so fun so => some (cs, ⟨opSlots ops o, o.dst, [], [(idn, so)], [], v⟩)
      | none => none
    | none => none
  | none => none
def othM (P : Program) (M : Mode) (ro : Hp) (ops : Array Oper) (mk : Mk) (idn : Nat) (o : Oper) (sl : Slots) (hp : Hp) : Option (List Prop × DR) :=
  match dop P M ro ops idn o sl hp with
  | some (cs, d) => match insOf d with
    | none => some (cs, d)
    | some _ => none
  | none => match mkM P ops mk idn o sl with
    | some (cs, d) => match insOf d with
      | none => some (cs, d)
      | some _ => none
    | none => none
def dopM (P : Program) (M : Mode) (ro : Hp) (ops : Array Oper) (mk : Mk) (q : IntKind) (μ : Nat) (idn : Nat) (o : Oper) (sl : Slots) (hp : Hp) : Option (List Prop × DR) :=
  match o.guard with
  | some _ => none
  | none => match o.op with
    | .makeMap _ none => bif Nat.beq idn μ then some ([], ⟨[], o.dst, [], [], [], .mp μ⟩) else none
    | .insert t m k x => insM P ops q μ o sl t m k x
    | _ => othM P M ro ops mk idn o sl hp

/-- A block, in the text's order. -/
def dblkG (F : Nat → Oper → Slots → Hp → Option (List Prop × DR)) (n : Nat) : List Oper → (idn : Nat) → Slots → Hp → List Prop → Option (List Prop × Slots × Hp × List DR)
  | [], _, sl, hp, acc => some (acc, sl, hp, [])
  | o :: r, idn, sl, hp, acc => match F idn o sl hp with
    | none => none
    | some (cs, d) => match put o.dst d.v n sl with
      | none => none
      | some sl' => match hmod d hp with
        | none => none
        | some hp' => match pushAll cs acc with
          | [] => match natF (idn + 1) fun idn' => dblkG F n r idn' sl' hp' [] with
            | some (ds, sl2, hp2, l) => some (ds, sl2, hp2, d :: l)
            | none => none
          | p :: ps => match natF (idn + 1) fun idn' => dblkG F n r idn' sl' hp' (p :: ps) with
            | some (ds, sl2, hp2, l) => some (ds, sl2, hp2, d :: l)
            | none => none
theorem dblkG_chain {F : Nat → Oper → Slots → Hp → Option (List Prop × DR)} (hF : ∀ idn o sl hp cs d, F idn o sl hp = some (cs, d) → d.dst = o.dst) {ops : Array Oper} {n : Nat} : ∀ {os : List Oper} {idn m : Nat} {sl sl' : Slots} {hp hp' : Hp} {acc cs : List Prop} {l : List DR},
    dblkG F n os idn sl hp acc = some (cs, sl', hp', l) → All cs → (∀ i, i < os.length → ops[m + i]? = os[i]?) →
    (∀ p ∈ acc, p ∈ cs) ∧ ∃ (Sl : Nat → Slots) (Hs : Nat → Hp) (dr : Nat → DR), Sl 0 = sl ∧ Hs 0 = hp ∧ Sl os.length = sl' ∧ Hs os.length = hp' ∧
      Chain (fun idn o sl hp cs d => F idn o sl hp = some (cs, d)) ops n idn m os.length Sl Hs dr ∧ (∀ j, j < os.length → l[j]? = some (dr j)) ∧ l.length = os.length
  | [], idn, m, sl, sl', hp, hp', acc, cs, l, h, hc, ho => by
    simp only [dblkG, Option.some.injEq, Prod.mk.injEq] at h
    obtain ⟨rfl, rfl, rfl, rfl⟩ := h
    exact ⟨fun _ h => h, fun _ => sl, fun _ => hp, fun _ => ⟨[], none, [], [], [], .und⟩, rfl, rfl, rfl, rfl, ⟨fun j hj => by simp at hj⟩, fun j hj => by simp at hj, rfl⟩
  | o :: os, idn, m, sl, sl', hp, hp', acc, cs, l, h, hc, ho => by
    simp only [dblkG, natF_eq] at h
    split at h <;> first | exact (none_ne h).elim | skip
    rename_i cs1 d e1
    split at h <;> first | exact (none_ne h).elim | skip
    rename_i sl1 e2
    split at h <;> first | exact (none_ne h).elim | skip
    rename_i hp1 e3
    have key : ∀ acc', (∀ p, p ∈ cs1 ∨ p ∈ acc → p ∈ acc') → (match dblkG F n os (idn + 1) sl1 hp1 acc' with
        | some (ds, sl2, hp2, l) => some (ds, sl2, hp2, d :: l)
        | none => none) = some (cs, sl', hp', l) → (∀ p ∈ acc, p ∈ cs) ∧ ∃ (Sl : Nat → Slots) (Hs : Nat → Hp) (dr : Nat → DR), Sl 0 = sl ∧ Hs 0 = hp ∧ Sl (o :: os).length = sl' ∧ Hs (o :: os).length = hp' ∧
          Chain (fun idn o sl hp cs d => F idn o sl hp = some (cs, d)) ops n idn m (o :: os).length Sl Hs dr ∧ (∀ j, j < (o :: os).length → l[j]? = some (dr j)) ∧ l.length = (o :: os).length := by
      intro acc' hacc h
      split at h <;> first | exact (none_ne h).elim | skip
      rename_i ds sl2 hp2 l' e4
      simp only [Option.some.injEq, Prod.mk.injEq] at h
      obtain ⟨rfl, rfl, rfl, rfl⟩ := h
      obtain ⟨g0, Sl, Hs, dr, g1, g2, g3, g4, g5, g6, g7⟩ := dblkG_chain hF (m := m + 1) e4 hc (fun i hi => by
        have := ho (i + 1) (by simp; omega)
        rw [show m + 1 + i = m + (i + 1) by omega, this]; simp)
      refine ⟨fun p hp => g0 p (hacc p (.inr hp)), fun k => match k with | 0 => sl | k + 1 => Sl k, fun k => match k with | 0 => hp | k + 1 => Hs k, fun k => match k with | 0 => d | k + 1 => dr k, rfl, rfl, g3, g4, ⟨fun j hj => ?_⟩, fun j hj => ?_, by simp [g7]⟩
      · cases j with
        | zero => exact ⟨o, cs1, by simpa using ho 0 (by simp), fun p hp => hc p (g0 p (hacc p (.inl hp))), ⟨e1, hF _ _ _ _ _ _ e1⟩, by simpa [g1] using e2, by simpa [g2] using e3⟩
        | succ j =>
          obtain ⟨o', cs', k1, k2, k3, k4, k5⟩ := g5.step j (by simpa using hj)
          exact ⟨o', cs', by rw [show m + (j + 1) = m + 1 + j by omega]; exact k1, k2, ⟨by rw [show idn + (j + 1) = idn + 1 + j by omega]; exact k3.1, k3.2⟩, k4, k5⟩
      · cases j with
        | zero => simp
        | succ j => simpa using g6 j (by simpa using hj)
    split at h
    · rename_i e; exact key [] (fun p hp => by have := pushAll_mem (cs := cs1) (acc := acc) hp; rw [e] at this; exact this) h
    · rename_i p ps e; exact key (p :: ps) (fun p hp => by have := pushAll_mem (cs := cs1) (acc := acc) hp; rw [e] at this; exact this) h

/-- What the map holds at the end. -/
def mapH : List DR → Int → Bool
  | [], _ => false
  | d :: r, a => match insOf d with
    | some (n, _) => ieq a n || mapH r a
    | none => mapH r a
def mapE : List DR → Int → SV
  | [], _ => .und
  | d :: r, a => match insOf d with
    | some (n, v) => bif ieq a n then v else mapE r a
    | none => mapE r a
/-- The same, told by the keys and values alone. -/
def insL : List DR → Option (List (Int × SV))
  | [] => some []
  | d :: r => match insL r with
    | none => none
    | some t => match insOf d with
      | some (n, v) => v.force fun v => some ((n, v) :: t)
      | none => some t
def kH : List (Int × SV) → Int → Bool
  | [], _ => false
  | (n, _) :: r, a => ieq a n || kH r a
def kE : List (Int × SV) → Int → SV
  | [], _ => .und
  | (n, v) :: r, a => bif ieq a n then v else kE r a
/-- The insertions wait for the map, and their keys differ. -/
def insChk (T : List (List Nat)) (i0 : Nat) : (j : Nat) → List DR → Bool
  | _, [] => true
  | j, d :: r => (match insOf d with
    | some (n, _) => inT T i0 j && !mapH r n
    | none => true) && insChk T i0 (j + 1) r
open Classical in
/-- The keys that the operations of X have laid. -/
noncomputable def hX (b : Nat) (dr : Nat → DR) (X : Nat → Prop) (a : Int) : Bool := decide (∃ j v, j < b ∧ X j ∧ insOf (dr j) = some (a, v))
section
variable {P : Program} {M : Mode} {ro : Hp} {ops : Array Oper} {T : List (List Nat)} {mk : Mk} {q : IntKind} {μ i0 n nx m b : Nat} {Sl : Nat → Slots} {Hs : Nat → Hp} {dr : Nat → DR} {l : List DR} {B : Base}

/-- The map, once it is made. -/
def MapJ (b i0 μ : Nat) (q : IntKind) (Hs : Nat → Hp) (dr : Nat → DR) (l : List DR) (B : Base) (X : Nat → Prop) (β : Env) (w : World) : Prop :=
  X i0 → ∃ bl es c, β μ = some bl ∧ β.room μ = 0 ∧ B.D bl = none ∧ w.heap[bl]? = some (.map es c) ∧ MRel β q (hX b dr X) (.any (mapE l)) es c ∧
    ∀ t k s, LastH b dr X t k → hget t (Hs k) = some s → s.Live → β t ≠ some bl

/-- What the slots that operation j reads hold. -/
theorem rho_view {D : DRel} {K : Nat} {dd : List Deferred} (hch : Chain D ops n nx m b Sl Hs dr) (hin : Indeps T m b dr) {X : Nat → Prop} (hX' : Closed T m b X) {j : Nat} (hj : j < b) (hjX : ¬ X j)
    (hpre : ∀ i, i < b → inT T (m + i) (m + j) = true → X i) {β : Env} {tmps : Array Value} {w : World} (hI : Inv b nx K Sl Hs dr ro B X β tmps w) {o : Oper} {slv : Slots} (e1 : thin (opSlots ops o) (Sl j) = some slv) (hrs : (dr j).rs = opSlots ops o) :
    Rho β slv (Act.eval ⟨tmps, dd⟩) := by
  refine ⟨fun t v hv => ?_, fun _ => rfl, fun _ => rfl⟩
  rw [thin_get e1 t] at hv
  split at hv
  · rename_i hm
    obtain ⟨kk, k1, k2⟩ := read_slot hch hin hX' hj hjX hpre (t := t) (by rw [hrs]; exact hasN_mem.1 hm)
    exact hI.S t kk v k1 (by rw [k2]; exact hv)
  · cases hv
variable {f : FuncId} {R : Ending → World → Prop}
def isMk : Option Oper → Bool
  | some o => match o.op with
    | .makeMap _ none => true
    | _ => false
  | none => false
end
end Sx
end
section
namespace Sx
open Go

/-- A call: who, with what, over which blocks (its own, to read), what it gives and leaves; the blocks' names at the caller's. -/
structure RC where
  g : Nat
  xs : List SV
  hpc : Hp
  roc : Hp
  nxc : Nat
  r : SV
  hpo : Hp
  nxo : Nat
  sg : List Nat
def RcOk (P : Program) (c : RC) : Prop := HC P c.g c.xs c.hpc c.roc c.nxc (fun _ : Unit => True) (fun _ => ⟨c.r, c.hpo, c.nxo⟩) ∧ c.sg.length = c.nxc ∧ c.nxc ≤ c.nxo
/-- By the new name of an operation in its turn. -/
abbrev RT := List (Nat × RC)
def rtGet (i : Nat) : RT → Option RC
  | [] => none
  | (j, c) :: r => bif Nat.beq i j then some c else rtGet i r
def rtOk (P : Program) : RT → Prop
  | [] => True
  | (_, c) :: r => RcOk P c ∧ rtOk P r
/-- A contract for callers that know some blocks that no one writes. -/
def HCK {ι : Type} (P : Program) (kn : Nat → Option Obj) (f : FuncId) (xs : List SV) (hp ro : Hp) (nx : Nat) (ψ : ι → Prop) (out : ι → Out) : Prop :=
  ∀ (B : Base) (β : Env) (w : World) (vs : List Value), B.ok → (∀ b o, kn b = some o → B.D b = some o) → RelL β xs vs → Sat β hp ro B nx w → Calls P f vs.toArray w (HEnd β B ro ψ out)
theorem hck_of_hc {ι : Type} {P : Program} {kn : Nat → Option Obj} {f : FuncId} {xs : List SV} {hp ro : Hp} {nx : Nat} {ψ : ι → Prop} {out : ι → Out} (h : HC P f xs hp ro nx ψ out) : HCK P kn f xs hp ro nx ψ out := fun B β w vs hB _ => h B β w vs hB
def RcOkK (P : Program) (kn : Nat → Option Obj) (c : RC) : Prop := HCK P kn c.g c.xs c.hpc c.roc c.nxc (fun _ : Unit => True) (fun _ => ⟨c.r, c.hpo, c.nxo⟩) ∧ c.sg.length = c.nxc ∧ c.nxc ≤ c.nxo
def rtOkK (P : Program) (kn : Nat → Option Obj) : RT → Prop
  | [] => True
  | (_, c) :: r => RcOkK P kn c ∧ rtOkK P kn r
theorem rtGet_okK {P : Program} {kn : Nat → Option Obj} {i : Nat} {c : RC} : ∀ {l : RT}, rtOkK P kn l → rtGet i l = some c → RcOkK P kn c
  | [], _, h => by cases h
  | (j, c') :: r, hk, h => by
    simp only [rtGet] at h
    cases hb : Nat.beq i j with
    | true => rw [hb] at h; injection h with h; subst h; exact hk.1
    | false => rw [hb] at h; exact rtGet_okK hk.2 h

/-- The block b was lent to the callee. -/
def Foot (β : Env) (hp hpc : Hp) (nx : Nat) (sg : List Nat) (b : Nat) : Prop := ∃ i so s, hget i hpc = some so ∧ hget (sig nx sg i) hp = some s ∧ s.Live ∧ β (sig nx sg i) = some b
theorem Sat.lend {β : Env} {hp ro hpc roc : Hp} {B : Base} {nx : Nat} {w : World} (hs : Sat β hp ro B nx w) {sg : List Nat} {ds es : List Prop}
    (hlt : allLt nx sg = true) (hcov : cover (hkeys hpc ++ hkeys roc) sg.length = true) (h2 : hpM nx sg hp hpc = some ds) (h2' : orM nx sg hp ro roc = some es) (h3 : dist nx sg (hkeys hpc ++ hkeys roc) = true) (hds : All ds) (hes : All es) :
    ∃ D : Nat → Option Obj, (∀ b, Foot β hp hpc nx sg b → D b = none) ∧ (∀ b, ¬ Foot β hp hpc nx sg b → D b = w.heap[b]?) ∧ (⟨D, w, Env.nil, Kind.norm⟩ : Base).ok ∧ Sat (β.via nx sg) hpc roc ⟨D, w, Env.nil, Kind.norm⟩ sg.length w ∧ ∀ a b : Nat, sig nx sg a = sig nx sg b → a = b := by
  have hD : ∀ (b : Nat), (∃ d : Option Obj, (Foot β hp hpc nx sg b → d = none) ∧ (¬ Foot β hp hpc nx sg b → d = w.heap[b]?)) := fun b => by
    by_cases h : Foot β hp hpc nx sg b
    · exact ⟨none, fun _ => rfl, fun g => absurd h g⟩
    · exact ⟨_, fun g => absurd g h, fun _ => rfl⟩
  have ⟨D, hD⟩ : ∃ D : Nat → Option Obj, ∀ b, (Foot β hp hpc nx sg b → D b = none) ∧ (¬ Foot β hp hpc nx sg b → D b = w.heap[b]?) := ⟨fun b => Classical.choose (hD b), fun b => Classical.choose_spec (hD b)⟩
  have hDs : ∀ b o, D b = some o → ¬ Foot β hp hpc nx sg b ∧ w.heap[b]? = some o := fun b o e => by
    by_cases h : Foot β hp hpc nx sg b
    · rw [(hD b).1 h] at e; cases e
    · exact ⟨h, by rw [← (hD b).2 h]; exact e⟩
  have hlt' := allLt_spec hlt
  have footD : ∀ b, Foot β hp hpc nx sg b → B.D b = none := by
    rintro b ⟨i, so, s, _, e1, e2, e3⟩
    obtain ⟨b', o, g1, g2, _⟩ := hs.own _ _ e1 e2
    rw [e3] at g1; injection g1 with g1; subst g1; exact g2
  have hinj : ∀ a b : Nat, sig nx sg a = sig nx sg b → a = b := by
    intro a b e
    rcases Nat.lt_or_ge a sg.length with g | g <;> rcases Nat.lt_or_ge b sg.length with g' | g'
    · by_cases h : a = b
      · exact h
      · exact absurd e (dist_spec h3 (cover_spec hcov a g) (cover_spec hcov b g') h)
    · obtain ⟨j, j1, j2⟩ := sig_lt (nx := nx) g
      have := hlt' _ (List.mem_of_getElem? j1)
      rw [sig_ge g'] at e; omega
    · obtain ⟨j, j1, j2⟩ := sig_lt (nx := nx) g'
      have := hlt' _ (List.mem_of_getElem? j1)
      rw [sig_ge g] at e; omega
    · rw [sig_ge g, sig_ge g'] at e; omega
  have lent : ∀ i so, hget i roc = some so → so.Live → ∃ b o, β (sig nx sg i) = some b ∧ w.heap[b]? = some o ∧ ¬ Foot β hp hpc nx sg b ∧ ORel (β.via nx sg) so o := by
    intro i so hi hl
    obtain ⟨s, cs, e1, e2, e3⟩ := orM_spec h2' hes hi hl
    have hsl := eqO_live e2 e3 hl
    rcases e1 with e1 | e1
    · obtain ⟨b, o, g1, g2, g3, g4, g5⟩ := hs.own _ _ e1 hsl
      refine ⟨b, o, g1, g3, ?_, eqO_rel e2 e3 g4⟩
      rintro ⟨j, so', s', j0, j1, j2, j3⟩
      by_cases hij : sig nx sg i = sig nx sg j
      · have := hinj i j hij
        subst this
        have : ∀ (a b : List Nat), dist nx sg (a ++ b) = true → ∀ x, x ∈ a → x ∈ b → False := by
          intro a b
          induction a with
          | nil => intro _ x hx; cases hx
          | cons y a ih =>
            intro hd x hx hxb
            simp only [List.cons_append, dist, Bool.and_eq_true, Bool.not_eq_true'] at hd
            cases hx with
            | head =>
              have : hasN (sig nx sg y) ((a ++ b).map (sig nx sg)) = true := hasN_iff.2 (List.mem_map_of_mem (List.mem_append_right _ hxb))
              rw [this] at hd; cases hd.1
            | tail _ hx => exact ih hd.2 x hx hxb
        exact this _ _ h3 i (hkeys_mem j0) (hkeys_mem hi)
      · exact hs.apart _ _ _ _ e1 j1 hsl j2 hij (g1.trans j3.symm)
    · obtain ⟨b, o, g1, g2, g3⟩ := hs.read _ _ e1 hsl
      refine ⟨b, o, g1, hs.old b o g2, ?_, eqO_rel e2 e3 g3⟩
      intro hf
      rw [footD b hf] at g2; cases g2
  refine ⟨D, fun b h => (hD b).1 h, fun b h => (hD b).2 h, fun b o e => (Array.getElem?_eq_some_iff.1 (hDs b o e).2).1, ?_, hinj⟩
  refine ⟨⟨?_, ?_, ?_, fun b o e => (hDs b o e).2, rfl, rfl, rfl, Nat.le_refl _, Env.nil_le _⟩, ?_⟩
  · intro i s hi hl
    obtain ⟨s0, cs, e1, e2, e3⟩ := hpM_spec h2 hds hi hl
    have hsl := eqO_live e2 e3 hl
    obtain ⟨b, o, g1, g2, g3, g4, g5⟩ := hs.own _ _ e1 hsl
    exact ⟨b, o, g1, (hD b).1 ⟨i, s, s0, hi, e1, hsl, g1⟩, g3, eqO_rel e2 e3 g4, g5⟩
  · intro i j s t hi hj ls lt hne
    obtain ⟨s0, cs, e1, e2, e3⟩ := hpM_spec h2 hds hi ls
    obtain ⟨s1, cs', e1', e2', e3'⟩ := hpM_spec h2 hds hj lt
    exact hs.apart _ _ _ _ e1 e1' (eqO_live e2 e3 ls) (eqO_live e2' e3' lt) (fun e => hne (hinj _ _ e))
  · intro i s hi hl
    obtain ⟨b, o, g1, g2, g3, g4⟩ := lent i s hi hl
    exact ⟨b, o, g1, by show D b = _; rw [(hD b).2 g3]; exact g2, g4⟩
  · intro i hi
    show β (sig nx sg i) = none
    rw [sig_ge hi]; exact hs.fresh _ (by omega)

/-- i, i + b, i + 2 b .. -/
def strd (b : Nat) : Nat → Nat → List Nat
  | _, 0 => []
  | i, k + 1 => natF i fun i => i :: strd b (i + b) k
theorem strd_get (b : Nat) : ∀ (k i c : Nat), c < k → (strd b i k)[c]? = some (i + c * b)
  | 0, _, _, h => by omega
  | k + 1, i, 0, h => by simp [strd, natF_eq]
  | k + 1, i, c + 1, h => by
    simp only [strd, natF_eq, List.getElem?_cons_succ]
    rw [strd_get b k (i + b) c (by omega), Nat.add_mul]; congr 1; omega
theorem sig_get {nx : Nat} {sg : List Nat} {i j : Nat} (h : sg[i]? = some j) : sig nx sg i = j := by
  unfold sig
  rw [nth_get, h]
def RC.names (c : RC) (b idn : Nat) : List Nat := c.sg ++ strd b idn (c.nxo - c.nxc)
theorem names_lt {c : RC} {b idn N i : Nat} (h1 : c.sg.length = c.nxc) (hi : i < c.nxc) : sig N (c.names b idn) i = sig N c.sg i := by
  obtain ⟨j, j1, j2⟩ := sig_lt (nx := N) (sg := c.sg) (i := i) (by omega)
  rw [j2]
  refine sig_get ?_
  unfold RC.names
  rw [List.getElem?_append_left (by omega)]; exact j1
theorem names_ge {c : RC} {b idn N i : Nat} (h1 : c.sg.length = c.nxc) (hi : c.nxc ≤ i) (hi2 : i < c.nxo) : sig N (c.names b idn) i = idn + (i - c.nxc) * b := by
  refine sig_get ?_
  unfold RC.names
  rw [List.getElem?_append_right (by omega), h1]
  exact strd_get b _ _ _ (by omega)
/-- Whether a name is bound from the start. -/
def Pinned (B : Base) (i : Nat) : Prop := ∃ b, B.pin i = some b
def liveC (pn : Nat → Prop) (N : Nat) (sg : List Nat) : Hp → List Prop
  | [] => []
  | (i, s) :: r => (s.Live ∨ pn (sig N sg i)) :: liveC pn N sg r
theorem liveC_spec {pn : Nat → Prop} {N : Nat} {sg : List Nat} {i : Nat} {s : SO} : ∀ {h : Hp}, All (liveC pn N sg h) → hget i h = some s → s.Live ∨ pn (sig N sg i)
  | [], _, h => by cases h
  | (j, t) :: r, hc, h => by
    simp only [hget] at h
    cases hb : Nat.beq i j with
    | true =>
      rw [hb] at h; injection h with h; subst h
      have := Nat.eq_of_beq_eq_true hb
      subst this
      exact hc.head
    | false => rw [hb] at h; exact liveC_spec (fun p hp => hc p (List.mem_cons_of_mem _ hp)) h

def guardC (ops : Array Oper) (sl : Slots) (o : Oper) : Option (Option Bool) :=
  match guardIn ops sl o with
  | some .run => some none
  | some (.may g) => some (some g)
  | _ => none
def sigL (nx : Nat) (sg : List Nat) : List Nat → List Nat
  | [] => []
  | i :: r => natF (sig nx sg i) fun j => j :: sigL nx sg r
theorem sigL_eq (nx : Nat) (sg : List Nat) : ∀ l, sigL nx sg l = l.map (sig nx sg)
  | [] => rfl
  | i :: r => by simp [sigL, natF_eq, sigL_eq nx sg r]
def rcChk (c : RC) (b K N g : Nat) : Bool :=
  Nat.beq g c.g && allLt N c.sg && cover (hkeys c.hpc ++ hkeys c.roc) c.sg.length && dist N c.sg (hkeys c.hpc ++ hkeys c.roc) && allLt c.nxo (hkeys c.hpo) && allLt c.nxc (hkeys c.hpc) && Nat.ble (c.nxo - c.nxc) K
def rcConds (pn : Nat → Prop) (c : RC) (N : Nat) (ro hpv : Hp) (as : List SV) : Option (List Prop) :=
  match renFL N c.sg c.xs (fun ys => eqL ys as), hpM N c.sg hpv c.hpc, orM N c.sg hpv ro c.roc with
  | some cs1, some cs2, some cs3 => some (cs1 ++ (cs2 ++ (cs3 ++ (liveC pn N c.sg c.hpc ++ liveC pn N c.sg c.roc))))
  | _, _, _ => none
def dopR (pn : Nat → Prop) (P : Program) (M : Mode) (ro : Hp) (ops : Array Oper) (tb : RT) (b K N : Nat) (idn : Nat) (o : Oper) (sl : Slots) (hp : Hp) : Option (List Prop × DR) :=
  match rtGet idn tb with
  | none => dop P M ro ops idn o sl hp
  | some c => match thin (opSlots ops o) sl with
    | none => none
    | some slv => match thinH c.sg hp with
      | none => none
      | some hpv => match guardC ops slv o, callee P slv o.op with
        | some gd, some (cs0, g, _, _, as) => bif rcChk c b K N g then
            match rcConds pn c N ro hpv as with
            | some cs1 => match gd with
              | none => renF N (c.names b idn) c.r fun v => renH N (c.names b idn) [] c.hpo fun wh => some (cs0 ++ cs1, ⟨opSlots ops o, o.dst, c.sg, wh, sigL N c.sg (hkeys c.hpc), v⟩)
              | some g => match c.hpc, c.hpo with
                | [], [] => renF N (c.names b idn) c.r fun v => some ((cs0 ++ cs1).map (fun p => g = true → p), ⟨opSlots ops o, o.dst, c.sg, [], [], .cnd g v⟩)
                | _, _ => renF N (c.names b idn) c.r fun v => renH N (c.names b idn) [] c.hpo fun wh => some ((g = true) :: (cs0 ++ cs1), ⟨opSlots ops o, o.dst, c.sg, wh, sigL N c.sg (hkeys c.hpc), v⟩)
            | none => none
          else none
        | _, _ => none
theorem dopR_dst {pn : Nat → Prop} {P : Program} {M : Mode} {ro : Hp} {ops : Array Oper} {tb : RT} {b K N : Nat} (idn : Nat) (o : Oper) (sl : Slots) (hp : Hp) (cs : List Prop) (d : DR) (h : dopR pn P M ro ops tb b K N idn o sl hp = some (cs, d)) : d.dst = o.dst := by
  unfold dopR at h
  split at h
  · exact dop_dst h
  · split at h <;> first | exact (none_ne h).elim | skip
    split at h <;> first | exact (none_ne h).elim | skip
    split at h <;> first | exact (none_ne h).elim | skip
    obtain ⟨_, h⟩ := bif_some' h
    split at h <;> first | exact (none_ne h).elim | skip
    split at h
    · rw [renF_eq, renH_eq] at h
      simp only [Option.some.injEq, Prod.mk.injEq] at h
      obtain ⟨_, rfl⟩ := h; rfl
    · split at h
      · rw [renF_eq] at h
        simp only [Option.some.injEq, Prod.mk.injEq] at h
        obtain ⟨_, rfl⟩ := h; rfl
      · rw [renF_eq, renH_eq] at h
        simp only [Option.some.injEq, Prod.mk.injEq] at h
        obtain ⟨_, rfl⟩ := h; rfl

section
variable {P : Program} {M : Mode} {ro : Hp} {ops : Array Oper} {T : List (List Nat)} {n nx K m b : Nat} {Sl : Nat → Slots} {Hs : Nat → Hp} {dr : Nat → DR} {B : Base}
/-- What a call by its word does. -/
theorem call_did {kn : Nat → Option Obj} (hkn : ∀ bb o, kn bb = some o → B.D bb = some o) {c : RC} (hrc : RcOkK P kn c) {β : Env} {hpj hpv : Hp} {w : World} {d : DR} {cs1 : List Prop} {idn N : Nat} {as : List SV} {vs : List Value} {g : Nat} (hb0 : 0 < b)
    (hview : ∀ t s, hget t hpv = some s → hget t hpj = some s) (hfresh : ∀ k, β (idn + k * b) = none) (hsat : Sat β hpv ro B N w)
    (hchk : rcChk c b K N g = true) (hcs : rcConds (Pinned B) c N ro hpv as = some cs1) (hall : All cs1) (hvs : RelL β as vs) (hwh : d.wh = renH' N (c.names b idn) [] c.hpo) (hdl : d.dl = (hkeys c.hpc).map (sig N c.sg)) (hrh : d.rh = c.sg) :
    Calls P c.g vs.toArray w fun e w' => ∃ (β' : Env) (u : Value), e = .returned u ∧ Did hpj β d (fun i => ∃ k, k < K ∧ i = idn + k * b) w β' w' ∧ Rel β' (ren N (c.names b idn) c.r) u := by
  unfold rcChk at hchk
  simp only [Bool.and_eq_true] at hchk
  obtain ⟨⟨⟨⟨⟨⟨_, k2⟩, k3⟩, k4⟩, k5⟩, k6⟩, k7⟩ := hchk
  have k7 := ble_nat k7
  have k5 := allLt_spec k5
  have k6 := allLt_spec k6
  unfold rcConds at hcs
  split at hcs <;> first | exact (none_ne hcs).elim | skip
  rename_i d1 d2 d3 e1 e2 e3
  rw [renFL_eq] at e1
  injection hcs with hcs; subst hcs
  obtain ⟨hHC, hl, hno⟩ := hrc
  have a1 : All d1 := hall.left
  have a2 : All d2 := hall.right.left
  have a3 : All d3 := hall.right.right.left
  have a4 : All (liveC (Pinned B) N c.sg c.hpc) := hall.right.right.right.left
  have a5 : All (liveC (Pinned B) N c.sg c.roc) := hall.right.right.right.right
  obtain ⟨D, hD1, hD2, hBok, hs1, hinj⟩ := hsat.lend k2 k3 e2 e3 k4 a2 a3
  rw [hl] at hs1
  have hargs : RelL (β.via N c.sg) c.xs vs := (renL_rel _ _).1 (eqL_less _ _ _ e1 a1 β vs hvs)
  -- the names handed in are bound
  have bound : ∀ i, i < c.nxc → ∃ bl, β (sig N c.sg i) = some bl := by
    intro i hi
    have hm := cover_spec k3 i (by omega)
    rcases List.mem_append.1 hm with hm | hm
    · obtain ⟨s, hs⟩ := hkeys_get hm
      rcases liveC_spec a4 hs with hl | ⟨bl, hb⟩
      · obtain ⟨s0, cs, g1, g2, g3⟩ := hpM_spec e2 a2 hs hl
        obtain ⟨bl, o, q1, _⟩ := hsat.own _ _ g1 (eqO_live g2 g3 hl)
        exact ⟨bl, q1⟩
      · exact ⟨bl, hsat.pin _ _ hb⟩
    · obtain ⟨s, hs⟩ := hkeys_get hm
      rcases liveC_spec a5 hs with hl | ⟨bl, hb⟩
      · obtain ⟨s0, cs, g1, g2, g3⟩ := orM_spec e3 a3 hs hl
        rcases g1 with g1 | g1
        · obtain ⟨bl, o, q1, _⟩ := hsat.own _ _ g1 (eqO_live g2 g3 hl)
          exact ⟨bl, q1⟩
        · obtain ⟨bl, o, q1, _⟩ := hsat.read _ _ g1 (eqO_live g2 g3 hl)
          exact ⟨bl, q1⟩
      · exact ⟨bl, hsat.pin _ _ hb⟩
  have hDk : ∀ bb o, kn bb = some o → D bb = some o := fun bb o e => by
    have e1 := hkn bb o e
    rw [hD2 bb (by
      rintro ⟨i, so, s, f1, f2, f3, f4⟩
      obtain ⟨b', o', g1, g2, _⟩ := hsat.own _ _ f2 f3
      rw [f4] at g1; injection g1 with g1; subst g1
      rw [e1] at g2; cases g2)]
    exact hsat.old bb o e1
  refine (hHC ⟨D, w, Env.nil, Kind.norm⟩ _ w vs hBok hDk hargs hs1).mono ?_
  rintro e w' ⟨z, β2, u, _, hle2, rfl, hu, hs2⟩
  have hu : Rel β2 c.r u := hu
  have hs2 : Sat β2 c.hpo c.roc ⟨D, w, Env.nil, Kind.norm⟩ c.nxo w' := hs2
  let isf : Nat → Prop := fun j => ∃ k, k < c.nxo - c.nxc ∧ j = idn + k * b
  have hE : ∀ j, ∃ x : Option Nat × Nat, (∀ k, k < c.nxo - c.nxc → j = idn + k * b → x = (β2 (c.nxc + k), β2.room (c.nxc + k))) ∧ (¬ isf j → x = (β j, β.room j)) := by
    intro j
    by_cases h : isf j
    · obtain ⟨k, h1, h2⟩ := h
      refine ⟨(β2 (c.nxc + k), β2.room (c.nxc + k)), fun k' h3 h4 => ?_, fun g => absurd ⟨k, h1, h2⟩ g⟩
      have : k = k' := Nat.eq_of_mul_eq_mul_right hb0 (by omega)
      rw [this]
    · exact ⟨(β j, β.room j), fun k h1 h2 => absurd ⟨k, h1, h2⟩ h, fun _ => rfl⟩
  obtain ⟨x, hx⟩ : ∃ x : Nat → Option Nat × Nat, ∀ j, (∀ k, k < c.nxo - c.nxc → j = idn + k * b → x j = (β2 (c.nxc + k), β2.room (c.nxc + k))) ∧ (¬ isf j → x j = (β j, β.room j)) := ⟨fun j => Classical.choose (hE j), fun j => Classical.choose_spec (hE j)⟩
  obtain ⟨β', hβ⟩ : ∃ β' : Env, β' = ⟨fun j => (x j).1, fun j => (x j).2⟩ := ⟨_, rfl⟩
  have new1 : ∀ k, k < c.nxo - c.nxc → β' (idn + k * b) = β2 (c.nxc + k) ∧ β'.room (idn + k * b) = β2.room (c.nxc + k) := fun k hk => by
    rw [hβ]; exact ⟨by show (x _).1 = _; rw [(hx _).1 k hk rfl], by show (x _).2 = _; rw [(hx _).1 k hk rfl]⟩
  have old1 : ∀ j, ¬ isf j → β' j = β j ∧ β'.room j = β.room j := fun j hj => by
    rw [hβ]; exact ⟨by show (x _).1 = _; rw [(hx _).2 hj], by show (x _).2 = _; rw [(hx _).2 hj]⟩
  have notf : ∀ j bl, β j = some bl → ¬ isf j := by
    rintro j bl hj ⟨k, _, rfl⟩
    rw [hfresh k] at hj; cases hj
  have hle : β.le β' := ⟨fun j bl h => by rw [(old1 j (notf j bl h)).1]; exact h, fun j bl h => (old1 j (notf j bl h)).2⟩
  have hvia : β2.le (β'.via N (c.names b idn)) := by
    have key : ∀ i bl, β2 i = some bl → β' (sig N (c.names b idn) i) = some bl ∧ β'.room (sig N (c.names b idn) i) = β2.room i := by
      intro i bl hi
      have hi2 : i < c.nxo := by
        rcases Nat.lt_or_ge i c.nxo with g | g
        · exact g
        · rw [hs2.fresh i g] at hi; cases hi
      rcases Nat.lt_or_ge i c.nxc with g | g
      · rw [names_lt hl g]
        obtain ⟨bl0, h0⟩ := bound i g
        have h1 := hle2 i bl0 h0
        rw [hi] at h1; injection h1 with h1; subst h1
        have h2 := old1 _ (notf _ _ h0)
        exact ⟨h2.1.trans h0, h2.2.trans (hle2.r i _ h0).symm⟩
      · rw [names_ge hl g hi2]
        have := new1 (i - c.nxc) (by omega)
        rw [show c.nxc + (i - c.nxc) = i by omega] at this
        exact ⟨this.1.trans hi, this.2⟩
    exact ⟨fun i bl h => (key i bl h).1, fun i bl h => (key i bl h).2⟩
  -- two names of the callee's at the caller's
  have inj2 : ∀ a a', a < c.nxo → a' < c.nxo → sig N (c.names b idn) a = sig N (c.names b idn) a' → a = a' := by
    intro a a' ha ha' he
    have mixed : ∀ a a', a < c.nxc → c.nxc ≤ a' → a' < c.nxo → sig N (c.names b idn) a = sig N (c.names b idn) a' → False := by
      intro a a' h1 h2 h3 he
      rw [names_lt hl h1, names_ge hl h2 h3] at he
      obtain ⟨bl, h0⟩ := bound a h1
      rw [he, hfresh] at h0; cases h0
    rcases Nat.lt_or_ge a c.nxc with g | g <;> rcases Nat.lt_or_ge a' c.nxc with g' | g'
    · rw [names_lt hl g, names_lt hl g'] at he; exact hinj _ _ he
    · exact (mixed a a' g g' ha' he).elim
    · exact (mixed a' a g' g ha he.symm).elim
    · rw [names_ge hl g ha, names_ge hl g' ha'] at he
      have : a - c.nxc = a' - c.nxc := Nat.eq_of_mul_eq_mul_right hb0 (by omega)
      omega
  have back : ∀ i so, hget i d.wh = some so → ∃ a s0, i = sig N (c.names b idn) a ∧ a < c.nxo ∧ hget a c.hpo = some s0 ∧ so = renO N (c.names b idn) s0 id := by
    intro i so hi
    rw [hwh] at hi
    rcases renH_get hi with ⟨a, s0, q1, q2, q3, q4, q5⟩ | h
    · exact ⟨a, s0, q1, k5 a q2, q5 (fun x y hx hy he => inj2 x y (k5 x hx) (k5 y hy) he), q4⟩
    · cases h
  have footm : ∀ bl, Foot β hpv c.hpc N c.sg bl → ∃ t s, t ∈ d.mod ∧ hget t hpj = some s ∧ s.Live ∧ β t = some bl := by
    rintro bl ⟨i, so, s, h1, h2, h3, h4⟩
    refine ⟨sig N c.sg i, s, ?_, hview _ _ h2, h3, h4⟩
    unfold DR.mod
    rw [wkeys_mem, hdl]
    exact .inr (List.mem_map_of_mem (hkeys_mem h1))
  refine ⟨β', u, rfl, ⟨hle, ?_, ?_, ?_, ?_, ?_, hs2.os, hs2.tape, hs2.output, hs2.size⟩, (ren_rel _ _).2 (Rel.mono hvia _ _ hu)⟩
  · intro i bl hi
    by_cases h : isf i
    · obtain ⟨k, h1, h2⟩ := h
      exact .inr ⟨k, by omega, h2⟩
    · exact .inl ((old1 i h).1.symm.trans hi)
  · intro i hi
    unfold DR.mod at hi
    rw [wkeys_mem, hdl] at hi
    rw [hrh]
    have insg : ∀ a, a < c.nxc → sig N c.sg a ∈ c.sg := fun a ha => by
      obtain ⟨j, j1, j2⟩ := sig_lt (nx := N) (sg := c.sg) (i := a) (by omega)
      rw [j2]; exact List.mem_of_getElem? j1
    rcases hi with ⟨so, hi⟩ | hi
    · obtain ⟨a, s0, rfl, q2, q3, q4⟩ := back i so hi
      rcases Nat.lt_or_ge a c.nxc with g | g
      · rw [names_lt hl g]; exact .inr (insg a g)
      · rw [names_ge hl g q2]; exact .inl ⟨a - c.nxc, by omega, rfl⟩
    · obtain ⟨a, h1, rfl⟩ := List.mem_map.1 hi
      exact .inr (insg a (k6 a h1))
  · intro i so hi hlive
    obtain ⟨a, s0, rfl, q2, q3, rfl⟩ := back i so hi
    obtain ⟨bl, o, p1, p2, p3, p4, p5⟩ := hs2.own a s0 q3 (renO_live hlive)
    refine ⟨bl, o, hvia a bl p1, p3, renO_rel (ORel.mono hvia _ _ p4), ?_, ?_⟩
    · have := hvia.r a bl p1
      have e : β'.room (sig N (c.names b idn) a) = β2.room a := this
      rw [e]; exact p5
    · by_cases hf : Foot β hpv c.hpc N c.sg bl
      · exact .inr (footm bl hf)
      · have p2 : D bl = none := p2
        rw [hD2 bl hf] at p2
        left
        simpa using p2
  · intro i i' so so' hi hi' ls ls' hne
    obtain ⟨a, s0, rfl, q2, q3, rfl⟩ := back i so hi
    obtain ⟨a', s0', rfl, q2', q3', rfl⟩ := back i' so' hi'
    have hne' : a ≠ a' := by rintro rfl; exact hne rfl
    have ap := hs2.apart a a' s0 s0' q3 q3' (renO_live ls) (renO_live ls') hne'
    obtain ⟨bl, o, p1, _⟩ := hs2.own a s0 q3 (renO_live ls)
    obtain ⟨bl', o', p1', _⟩ := hs2.own a' s0' q3' (renO_live ls')
    have r1 : β' (sig N (c.names b idn) a) = some bl := hvia a bl p1
    have r2 : β' (sig N (c.names b idn) a') = some bl' := hvia a' bl' p1'
    rw [r1, r2]; rw [p1, p1'] at ap; exact ap
  · intro bl o he hno'
    have hnf : ¬ Foot β hpv c.hpc N c.sg bl := fun hf => by
      obtain ⟨t, s, h1, h2, h3, h4⟩ := footm bl hf
      exact hno' t s h1 h2 h3 h4
    exact hs2.old bl o (by show D bl = some o; rw [hD2 bl hnf]; exact he)

theorem rc_did {D : DRel} {dd : List Deferred} (hP : Named P) {kn : Nat → Option Obj} (hkn : ∀ bb o, kn bb = some o → B.D bb = some o) {tb : RT} (htb : rtOkK P kn tb) (hch : Chain D ops n nx m b Sl Hs dr) (hin : Indeps T m b dr) (h0 : ∀ t v, look t (Sl 0) = some v → t < n) {X : Nat → Prop} (hX' : Closed T m b X) {j : Nat} (hj : j < b) (hjX : ¬ X j)
    (hpre : ∀ i, i < b → inT T (m + i) (m + j) = true → X i) {β : Env} {tmps : Array Value} {w : World} (hI : Inv b nx K Sl Hs dr ro B X β tmps w) (hsz : tmps.size = n)
    {o : Oper} {cs : List Prop} (ho : ops[m + j]? = some o) (hc : All cs) {c : RC} (hrt : rtGet (nx + j) tb = some c) (hd : dopR (Pinned B) P M ro ops tb b K (nx + b * K) (nx + j) o (Sl j) (Hs j) = some (cs, dr j)) (fb : Frame) (k : List Item) (fs : List Frame) (r : List Nat) :
    ∃ (β' : Env) (w' : World) (v : Value), Did (Hs j) β (dr j) (fun i => ∃ k, k < K ∧ i = nx + j + k * b) w β' w' ∧ Rel β' (dr j).v v ∧
      Steps P (lone (fb.atR ⟨tmps, dd⟩ (.inRegion ops ((m + j) :: r) :: k)) fs w) (lone (fb.atR (Act.put ⟨tmps, dd⟩ (dr j).dst v) (.inRegion ops r :: k)) fs w') := by
  have hdd := dopR_dst _ _ _ _ _ _ hd
  have hltj := chain_lt hch h0 j (by omega)
  unfold dopR at hd
  rw [hrt] at hd
  simp only at hd
  split at hd <;> first | exact (none_ne hd).elim | skip
  rename_i slv e1
  split at hd <;> first | exact (none_ne hd).elim | skip
  rename_i hpv e2
  split at hd <;> first | exact (none_ne hd).elim | skip
  rename_i gd cs0 g gf gb as eg e3
  obtain ⟨hb, hd2⟩ := bif_some' hd
  clear hd
  have hd := hd2
  clear hd2
  have hgeq : g = c.g := by
    unfold rcChk at hb
    simp only [Bool.and_eq_true] at hb
    exact beq_nat hb.1.1.1.1.1.1
  split at hd <;> first | exact (none_ne hd).elim | skip
  rename_i cs1 e4
  have hrs : (dr j).rs = opSlots ops o ∧ (dr j).rh = c.sg := by
    split at hd
    · rw [renF_eq, renH_eq] at hd
      simp only [Option.some.injEq, Prod.mk.injEq] at hd
      obtain ⟨_, hd⟩ := hd
      rw [← hd]; exact ⟨rfl, rfl⟩
    · split at hd
      · rw [renF_eq] at hd
        simp only [Option.some.injEq, Prod.mk.injEq] at hd
        obtain ⟨_, hd⟩ := hd
        rw [← hd]; exact ⟨rfl, rfl⟩
      · rw [renF_eq, renH_eq] at hd
        simp only [Option.some.injEq, Prod.mk.injEq] at hd
        obtain ⟨_, hd⟩ := hd
        rw [← hd]; exact ⟨rfl, rfl⟩
  have hrho := rho_view (dd := dd) hch hin hX' hj hjX hpre hI e1 hrs.1
  have hlt : ∀ t v, look t slv = some v → t < tmps.size := by
    intro t v hv
    rw [thin_get e1 t] at hv
    split at hv
    · rw [hsz]; exact hltj t v hv
    · cases hv
  have g2 := thinH_get e2
  have hview : ∀ t s, hget t hpv = some s → hget t (Hs j) = some s := by
    intro t s hs
    rw [g2 t] at hs
    split at hs
    · exact hs
    · cases hs
  have rdH : ∀ {t}, t ∈ c.sg → ∀ s, hget t (Hs j) = some s → ∃ kk, LastH b dr X t kk ∧ hget t (Hs kk) = some s := by
    intro t ht s hs
    obtain ⟨kk, k1, k2⟩ := read_heap hch hin hX' hj hjX hpre (t := t) (by rw [hrs.2]; exact ht)
    exact ⟨kk, k1, by rw [k2]; exact hs⟩
  have hsat : Sat β hpv ro B (nx + b * K) w := by
    refine ⟨⟨?_, ?_, hI.read, hI.old, hI.os, hI.tape, hI.output, hI.size, hI.pin⟩, ?_⟩
    · intro i s hi hlive
      rw [g2 i] at hi
      split at hi
      · rename_i hm
        obtain ⟨kk, k1, k2⟩ := rdH (hasN_mem.1 hm) s hi
        exact hI.H i kk s k1 k2 hlive
      · cases hi
    · intro i i' s s' hi hi' ls ls' hne
      rw [g2 i] at hi
      rw [g2 i'] at hi'
      split at hi
      · rename_i hm
        split at hi'
        · rename_i hm'
          obtain ⟨kk, k1, k2⟩ := rdH (hasN_mem.1 hm) s hi
          obtain ⟨kk', k1', k2'⟩ := rdH (hasN_mem.1 hm') s' hi'
          exact hI.A i kk s i' kk' s' k1 k2 k1' k2' ls ls' hne
        · cases hi'
      · cases hi
    · intro i hi
      cases hb' : β i with
      | none => rfl
      | some bl =>
        rcases hI.F _ bl hb' with h | ⟨j', c', h1, h2, h3⟩
        · have := Nat.le_add_right nx (b * K); omega
        · have h4 : (c' + 1) * b ≤ K * b := Nat.mul_le_mul_right b h2
          rw [Nat.add_mul, Nat.mul_comm K b] at h4
          have := hX'.lt j' h1
          omega
  have hfresh : ∀ k, β (nx + j + k * b) = none := fun k => inv_fresh hX' hj hjX hI k
  have go : ∀ {d : DR}, d.wh = renH' (nx + b * K) (c.names b (nx + j)) [] c.hpo → d.dl = (hkeys c.hpc).map (sig (nx + b * K) c.sg) → d.rh = c.sg → All (cs0 ++ cs1) → Region.wanted o (yielded ops tmps) = true →
      ∃ (β' : Env) (w' : World) (u : Value), Did (Hs j) β d (fun i => ∃ k, k < K ∧ i = nx + j + k * b) w β' w' ∧ Rel β' (ren (nx + b * K) (c.names b (nx + j)) c.r) u ∧
      Steps P (lone (fb.atR ⟨tmps, dd⟩ (.inRegion ops ((m + j) :: r) :: k)) fs w) (lone (fb.atR (Act.put ⟨tmps, dd⟩ (dr j).dst u) (.inRegion ops r :: k)) fs w') := by
    intro d hwh hdl hrh hall hw
    obtain ⟨hfn, hbd, vs, hl, hrun⟩ := callee_run (w := w) hP hrho e3 hall.left
    have hst := op_enter (P := P) (b := fb) (a := ⟨tmps, dd⟩) (k := k) (cs := fs) (w := w) (ops := ops) (i := m + j) (rest := r) ho hw hrun
    have hcall := call_did (ro := ro) (B := B) (b := b) (K := K) (d := d) hkn (rtGet_okK htb hrt) (by omega) hview hfresh hsat hb e4 hall.right hl hwh hdl hrh
    rw [hgeq] at hst
    obtain ⟨e, w', fr', ⟨β', u, rfl, hdid, hu⟩, hco, _, hlv⟩ := hcall (fb.atR ⟨tmps, dd⟩ (.inRegion ops ((m + j) :: r) :: k) :: fs)
    refine ⟨β', w', u, hdid, hu, (Steps.one hst).trans (Steps.trans hco (.one ?_))⟩
    have hfin : (fb.atR ⟨tmps, dd⟩ (.inRegion ops ((m + j) :: r) :: k)).finish u = fb.atR (Act.put ⟨tmps, dd⟩ (dr j).dst u) (.inRegion ops r :: k) := by rw [Frame.finish_atR, ho, hdd]; rfl
    rw [← hfin]
    exact step_leave_returned hlv
  split at hd
  · rw [renF_eq, renH_eq] at hd
    simp only [Option.some.injEq, Prod.mk.injEq] at hd
    obtain ⟨rfl, hd⟩ := hd
    unfold guardC at eg
    split at eg <;> first | exact (none_ne eg).elim | skip
    · rename_i e6
      have hw := guard_rel e6 hsz hrho.slot hlt
      obtain ⟨β', w', u, h1, h2, hst⟩ := go (d := dr j) (by rw [← hd]) (by rw [← hd]; exact sigL_eq _ _ _) (by rw [← hd]) hc hw
      exact ⟨β', w', u, h1, by rw [← hd]; exact h2, hst⟩
    · cases eg
  · rename_i gg
    split at hd
    rotate_left
    · rw [renF_eq, renH_eq] at hd
      simp only [Option.some.injEq, Prod.mk.injEq] at hd
      obtain ⟨rfl, hd⟩ := hd
      unfold guardC at eg
      split at eg <;> first | exact (none_ne eg).elim | skip
      · cases eg
      · rename_i g' e6
        simp only [Option.some.injEq] at eg
        subst eg
        have hg : g' = true := hc.head
        subst hg
        have hw := guard_rel e6 hsz hrho.slot hlt
        obtain ⟨β', w', u, h1, h2, hst⟩ := go (d := dr j) (by rw [← hd]) (by rw [← hd]; exact sigL_eq _ _ _) (by rw [← hd]) hc.tail hw
        exact ⟨β', w', u, h1, by rw [← hd]; exact h2, hst⟩
    rename_i q1 q2
    rw [renF_eq] at hd
    simp only [Option.some.injEq, Prod.mk.injEq] at hd
    obtain ⟨rfl, hd⟩ := hd
    unfold guardC at eg
    split at eg <;> first | exact (none_ne eg).elim | skip
    · cases eg
    · rename_i g' e6
      simp only [Option.some.injEq] at eg
      subst eg
      have hw := guard_rel e6 hsz hrho.slot hlt
      cases g' with
      | false =>
        refine ⟨β, w, undef, did_same (by rw [← hd]) (by rw [← hd]), by rw [← hd]; exact ⟨fun e => Bool.noConfusion e, fun _ => rfl⟩, ?_⟩
        rw [hdd]
        exact .one (op_pass ho hw)
      | true =>
        obtain ⟨β', w', u, h1, h2, hst⟩ := go (d := dr j) (by rw [← hd, q2]; rfl) (by rw [← hd, q1]; rfl) (by rw [← hd]) (fun p hp' => hc _ (List.mem_map_of_mem hp') rfl) hw
        exact ⟨β', w', u, h1, by rw [← hd]; exact ⟨fun _ => h2, fun e => Bool.noConfusion e⟩, hst⟩

variable {f : FuncId} {R : Ending → World → Prop}
/-- A block of b operations from the m-th on, in whatever order; the table tells the words of the callees. A call may make up to K blocks. -/
theorem run_drawK {kn : Nat → Option Obj} (hkn : ∀ bb o, kn bb = some o → B.D bb = some o) (K : Nat) (b : Nat) (hK : Nat.ble 1 K = true) (hP : Named P) (hB : B.ok) (hM : SumOk P M.sum) {fn : FId} {n : Nat} {sl sl' : Slots} {ops : Array Oper} {m t : Nat} {k : List SI} {rest : List SFr} {hp hp' : Hp} {nx nx' : Nat} {T : List (List Nat)} {cs : List Prop} {l : List DR} (tb : RT) (htb : rtOkK P kn tb)
    (hT : closeGo [] ops.toList = some T) (hN : natF (nx + b * K) some = some nx') (hb : dblkG (dopR (Pinned B) P M ro ops tb b K nx') n ((ops.toList.drop m).take b) nx sl hp [] = some (cs, sl', hp', l)) (hle : Nat.ble (m + b) ops.size = true) (hi : indepAll T m l = true)
    (hbar : barAll T m b (m + b) (ops.size - (m + b)) = true) (hc : conj cs)
    (h : ∀ t, Run P ro B f R ⟨⟨fn, n, sl', .reg ops (m + b) [] (some (goF ops (m + b) t)) :: k⟩, rest, hp', nx'⟩) : Run P ro B f R ⟨⟨fn, n, sl, .reg ops m [] (some (goF ops m t)) :: k⟩, rest, hp, nx⟩ := by
  rw [natF_eq] at hN
  injection hN with hN; subst hN
  have hK := ble_nat hK
  have hle' := ble_nat hle
  have hlen : ((ops.toList.drop m).take b).length = b := by simp; omega
  obtain ⟨_, Sl, Hs, dr, c1, c2, c3, c4, hch, c5, c6⟩ := dblkG_chain (dopR_dst (pn := Pinned B) (P := P) (M := M) (ro := ro) (ops := ops) (tb := tb) (b := b) (K := K) (N := nx + b * K)) (ops := ops) (m := m) hb (all_conj hc) (fun i hi => by
    rw [hlen] at hi
    rw [List.getElem?_take, if_pos hi, List.getElem?_drop]; simp)
  rw [hlen] at c3 c4 hch c5 c6
  have hin : Indeps T m b dr := fun i j hij hj hT0 => by
    rcases indepAll_spec hi i j (dr i) (dr j) hij (c5 i (by omega)) (c5 j hj) with h | h
    · rw [h] at hT0; cases hT0
    · exact h
  refine run_drawJ b (nx' := nx + b * K) (dst := fun j => (dr j).dst) (J := fun X β tmps w => Inv b nx K Sl Hs dr ro B X β tmps w) hT hle hbar (fun β tmps w h1 h2 => inv_none (fun _ _ _ => trivial) (by rw [c1]; exact h1) (by rw [c2]; exact h2))
    (fun hlt dd fb k fs X j hX hj hjX hpre β tmps w hI hsz r => ?_) (fun β tmps w hI => by have := inv_all hch hI; rw [c3, c4] at this; exact this)
    (fun hlt => by rw [← c3]; exact chain_lt hch (by rw [c1]; exact hlt) b (Nat.le_refl _)) h
  obtain ⟨o, cs1, d1, d2, ⟨d3, d4⟩, d5, d6⟩ := hch.step j hj
  cases hrt : rtGet (nx + j) tb with
  | none =>
    have d3' := d3
    unfold dopR at d3'
    rw [hrt] at d3'
    obtain ⟨β1, w1, v, a1, a2, a4⟩ := op_did1 hP hM hch hin (by rw [c1]; exact hlt) hX hj hjX hpre hI hsz d1 d2 d3' fb k fs r
    exact ⟨β1, w1, v, a1.le, inv_step hB hch hin hX hj hjX hpre hI hsz (fun i hi => ⟨0, by omega, by simpa using hi⟩) a1 a2, a4⟩
  | some c =>
    obtain ⟨β1, w1, v, a1, a2, a4⟩ := rc_did hP hkn htb hch hin (by rw [c1]; exact hlt) hX hj hjX hpre hI hsz d1 d2 hrt d3 fb k fs r
    exact ⟨β1, w1, v, a1.le, inv_step hB hch hin hX hj hjX hpre hI hsz (fun i hi => hi) a1 a2, a4⟩
end
end Sx
end
section
namespace Sx
open Go
section
variable {P : Program} {ro : Hp} {B : Base} {f : FuncId} {R : Ending → World → Prop}
abbrev nilIt : SO := .obj (.mapIter none 0 #[] 0)
end
end Sx
end
section
namespace Sx
open Go
section
variable {P : Program} {ro : Hp} {B : Base} {f : FuncId} {R : Ending → World → Prop}
/-- The map without a key. -/
structure Less1 (es es' : Array MapEntry) : Prop where
  sub : ∀ x, x ∈ es'.toList → x ∈ es.toList
  left : ∀ seen : Array Nat, (leftOf es' seen).size ≤ (leftOf es seen).size
theorem Less1.seen {es es' : Array MapEntry} (h : Less1 es es') {q : IntKind} {seen : Array Nat} {S : Int → Bool} (hS : SeenIs q es seen S) : SeenIs q es' seen S := fun x hx a ha => hS x (h.sub x hx) a ha
theorem Less1.refl (es : Array MapEntry) : Less1 es es := ⟨fun _ h => h, fun _ => Nat.le_refl _⟩
theorem Less1.trans {a b c : Array MapEntry} (h : Less1 a b) (g : Less1 b c) : Less1 a c := ⟨fun x hx => h.sub x (g.sub x hx), fun s => Nat.le_trans (g.left s) (h.left s)⟩
def delArg (P : Program) (sl : Slots) : Op → Option (List Prop × Nat × IntKind × Int)
  | .call { callee := .builtin .delete, args := as, argTypes := ts } => match ts.toList, evList sl as.toList with
    | t :: _, some (cs, [.mp i, .int q n]) => match mapIn P t with
      | some (q', _, _) => bif keq q q' then some (cs, i, q, n) else none
      | none => none
    | _, _ => none
  | _ => none
/-- A row whose elements from s to s + m are z. -/
def clrF (f : Nat → Nat → SV) (s m : Nat) (z : SV) : Nat → Nat → SV := fun i k => if s ≤ i ∧ i < s + m then z else f i k
def clrArg (P : Program) (sl : Slots) : Op → Option (List Prop × Nat × Nat × Nat × Nat × SV)
  | .call { callee := .builtin .clear, args := as, argTypes := ts } => match ts.toList, evList sl as.toList with
    | t :: _, some (cs, [.sq i off s 1 m _]) => match P.underlying t with
      | some (.slice e) => match zeroIn P e with
        | some (.int k z) => some (cs, i, off, s, m, .int k z)
        | _ => none
      | _ => none
    | _, _ => none
  | _ => none
end
end Sx
end
section
namespace Sx
open Go
theorem Mem.grow {β : Env} {hp ro : Hp} {B : Base} {w : World} (hs : Mem β hp ro B w) (os : Array Obj) : Mem β hp ro B (Go.Sort.grow w os) := by
  have hk : ∀ (b : Nat) (o : Obj), w.heap[b]? = some o → (Go.Sort.grow w os).heap[b]? = some o := fun b o h => by
    rw [Go.Sort.heap_grow_old w os (Array.getElem?_eq_some_iff.1 h).1]; exact h
  refine ⟨fun i s h1 h2 => ?_, hs.apart, hs.read, fun b o h => hk b o (hs.old b o h), hs.os, hs.tape, hs.output, Nat.le_trans hs.size (by simp), hs.pin⟩
  obtain ⟨b, o, k1, k2, k3, k4, k5⟩ := hs.own i s h1 h2
  exact ⟨b, o, k1, k2, hk b o k3, k4, k5⟩
theorem Mem.ahead {β : Env} {hp ro : Hp} {B : Base} {w : World} (hs : Mem β hp ro B w) (n : Nat) : Mem β hp ro B (Go.Sort.ahead w n) :=
  ⟨hs.own, hs.apart, hs.read, hs.old, hs.os, hs.tape, hs.output, hs.size, hs.pin⟩
abbrev rowL (k : IntKind) (l : List Int) : Nat → Nat → SV := fun i j =>
  match j with
  | 0 => .int k (l.getD i 0)
  | _ => .und
end Sx
end
section
namespace Sx
open Go
/-- One name more is bound for good. -/
def Base.pinA (B : Base) (k b r : Nat) : Base := ⟨B.D, B.w, B.pin.add k b r, B.kd⟩
theorem PinTo.pinA {B : Base} {np : Nat} (h : PinTo B np) {k b r : Nat} (hk : k < np) : PinTo (B.pinA k b r) np := by
  refine ⟨fun i hi => ?_, h.k⟩
  show (B.pin.add k b r) i = none
  rw [Env.add_other _ _ _ (by omega)]
  exact h.p i hi
theorem PinTo.more {B : Base} {np np' : Nat} (h : PinTo B np) (hn : np ≤ np') : PinTo B np' := ⟨fun i hi => h.p i (by omega), h.k⟩
theorem pinned_A {B : Base} {k b r : Nat} : Pinned (B.pinA k b r) k := ⟨b, Env.add_same _ _ _ _⟩
theorem Pinned.more {B B' : Base} (h : More B B') {i : Nat} (hp : Pinned B i) : Pinned B' i := by
  obtain ⟨b, hb⟩ := hp
  exact ⟨b, h.pin _ _ hb⟩
theorem Pinned.A {B : Base} {i k b r : Nat} (hp : Pinned B i) : Pinned (B.pinA k b r) i := by
  by_cases h : i = k
  · subst h; exact pinned_A
  · obtain ⟨c, hc⟩ := hp
    exact ⟨c, (Env.add_other _ _ _ h).trans hc⟩
theorem Pinned.pin2 {B : Base} {i nx D l : Nat} (hp : Pinned B i) : Pinned (B.pin2 nx D l) i := by
  obtain ⟨c, hc⟩ := hp
  unfold Pinned Base.pin2
  show ∃ b, (bif Nat.beq i nx then some D else bif Nat.beq i (nx + 1) then some l else B.pin i) = some b
  cases Nat.beq i nx with
  | true => exact ⟨_, rfl⟩
  | false => cases Nat.beq i (nx + 1) with
    | true => exact ⟨_, rfl⟩
    | false => exact ⟨c, hc⟩
theorem More.trans {A B C : Base} (h : More A B) (g : More B C) : More A C := ⟨g.D.trans h.D, g.w.trans h.w, Env.le_trans h.pin g.pin, g.kd.trans h.kd⟩
section
variable {P : Program} {ro : Hp} {B : Base} {f : FuncId} {R : Ending → World → Prop}
end
end Sx
end
section
namespace Sx
open Go Go.ChangeShapes Go.WideShapes
section
variable {H : Type} {enc : TypeId × Value → H} {P : Program} {w : World}
theorem slice_argC {t e : TypeId} {sz fuel : Nat} {v : Value} {x : DataW H × List MemPlace} (ht : P.underlying t = some (.slice e)) (hsz : P.cellsOf e = sz) (hp : 0 < sz)
    (h : DataW.trod enc P w 0 (fun _ => true) true fuel t [v] = some x) :
    ∃ (off n : Nat) (C : Nat → List Value) (β : Env), (∀ i, i < n → ∃ m y, DataW.trod enc P w 0 (fun _ => true) true m e (C i) = some y) ∧
      Rel β (.sq 0 off 0 sz n .no) v ∧ Sat β [] [] (Base.all w) 1 w ∧
      ∀ i, i < n → ∃ b c tt fz, β 0 = some b ∧ w.heap[b]? = some (.cells c tt fz) ∧ ∀ k, k < sz → c[off + i * sz + k]? = (C i)[k]? := by
  rcases Deep.open_slice ht h with ⟨hv, _⟩ | ⟨a, len, cap, m, n, D, Pl, hv, _, hl, _, hm, _, hx⟩
  · obtain rfl : v = .slice none 0 0 := by simpa using hv
    exact ⟨0, 0, fun _ => [], Env.nil, fun i hi => absurd hi (Nat.not_lt_zero _), rel_nilsq, ⟨⟨fun _ _ h => (none_ne h).elim, fun _ _ _ _ h => (none_ne h).elim, fun _ _ h => (none_ne h).elim, fun _ _ h => h, rfl, rfl, rfl, Nat.le_refl _, Env.le_refl _⟩, fun _ _ => rfl⟩,
      fun i hi => absurd hi (Nat.not_lt_zero _)⟩
  · obtain rfl : v = .slice (some a) len cap := by simpa using hv
    have hm : m = cap := by simpa using hm
    subst hm
    rw [hsz] at hx
    obtain ⟨C, hC⟩ := Deep.choose_lt (α := List Value) (p := fun i cs' => w.cells? 0 (a.add (i * sz)) sz = some cs' ∧ DataW.trod enc P w 0 (fun _ => true) true n e cs' = some (D i, Pl i)) (n := m) hx
    have cell : ∀ i k, i < m → k < sz → w.cell? ((a.add (i * sz)).add k) = (C i)[k]? := fun i k hi hk => (World.cells?_some (hC i hi).1).2.2 k hk
    have len' : ∀ i, i < m → (C i).length = sz := fun i hi => (World.cells?_some (hC i hi).1).2.1
    refine ⟨a.off, len, C, Env.one a.block, fun i hi => ⟨n, _, (hC i (by omega)).2⟩, ?_, ⟨⟨fun _ _ h => (none_ne h).elim, fun _ _ _ _ h => (none_ne h).elim, fun _ _ h => (none_ne h).elim, fun _ _ h => h, rfl, rfl, rfl, Nat.le_refl _, Env.nil_le _⟩, ?_⟩, ?_⟩
    · unfold Rel
      refine ⟨some a, m, rfl, fun h => (by cases h), fun h => (by cases h), fun h => (by cases h), fun h0 => ⟨hl, a.block, rfl, ?_, fun h => (by cases h)⟩⟩
      have c0 := cell 0 0 (by omega) hp
      have l0 := len' 0 (by omega)
      rw [List.getElem?_eq_getElem (by omega)] at c0
      have : a.spot = none := by
        have := World.cell?_spot c0
        simpa [Addr.add] using this
      obtain ⟨ab, ao, asp⟩ := a
      simp only at this
      subst this
      simp
    · intro i hi
      match i, hi with
      | i + 1, _ => rfl
    · intro i hi
      have h0 : 0 < len := by omega
      have c0 := cell 0 0 (by omega) hp
      have l0 := len' 0 (by omega)
      rw [List.getElem?_eq_getElem (by omega)] at c0
      have sp : a.spot = none := by
        have := World.cell?_spot c0
        simpa [Addr.add] using this
      obtain ⟨ab, ao, asp⟩ := a
      simp only at sp
      subst sp
      have hcell : ∀ i k, i < m → k < sz → ∃ c tt fz, w.heap[ab]? = some (.cells c tt fz) ∧ c[ao + i * sz + k]? = (C i)[k]? := by
        intro i k hi hk
        have h1 := cell i k hi hk
        have h2 := len' i hi
        rw [List.getElem?_eq_getElem (by omega)] at h1 ⊢
        have e1 : ((Addr.mk ab ao none).add (i * sz)).add k = ⟨ab, ao + i * sz + k, none⟩ := by
          unfold Addr.add
          by_cases q : i * sz = 0 <;> by_cases r : k = 0 <;> simp [q, r, Nat.add_assoc]
        rw [e1] at h1
        unfold World.cell? at h1
        split at h1
        · rename_i c tt fz hh
          exact ⟨c, tt, fz, hh, by simpa using h1⟩
        · cases h1
      obtain ⟨c, tt, fz, hh, _⟩ := hcell i 0 (by omega) hp
      refine ⟨ab, c, tt, fz, rfl, hh, fun k hk => ?_⟩
      obtain ⟨c', tt', fz', hh', g⟩ := hcell i k (by omega) hk
      rw [hh] at hh'
      simp only [Option.some.injEq, Obj.cells.injEq] at hh'
      obtain ⟨rfl, _, _⟩ := hh'
      exact g
end
section
variable {P : Program} {ro : Hp} {B : Base} {f : FuncId} {R : Ending → World → Prop}
end
end Sx
end
section
namespace Sx
open Go

/-- The truth value that was put last, decided. -/
def decTop : Cfg → Cfg
  | ⟨⟨fn, n, (d, .sb b) :: sl, td⟩, rest, hp, nx⟩ => match b with
    | true => ⟨⟨fn, n, (d, .tt) :: sl, td⟩, rest, hp, nx⟩
    | false => ⟨⟨fn, n, (d, .ff) :: sl, td⟩, rest, hp, nx⟩
  | c => c
/-- All truth values and guards of the top frame, decided. -/
def decL : Slots → Option Slots
  | [] => some []
  | (d, .sb b) :: r => match decL r with
    | some r' => match b with
      | true => some ((d, .tt) :: r')
      | false => some ((d, .ff) :: r')
    | none => none
  | (d, .cnd g v) :: r => match decL r with
    | some r' => match g with
      | true => match v with
        | .sb b => match b with
          | true => some ((d, .tt) :: r')
          | false => some ((d, .ff) :: r')
        | v => some ((d, v) :: r')
      | false => some ((d, .cnd false .und) :: r')
    | none => none
  | x :: r => match decL r with
    | some r' => some (x :: r')
    | none => none
def decAll : Cfg → Cfg
  | ⟨⟨fn, n, sl, td⟩, rest, hp, nx⟩ => match decL sl with
    | some sl' => ⟨⟨fn, n, sl', td⟩, rest, hp, nx⟩
    | none => ⟨⟨fn, n, sl, td⟩, rest, hp, nx⟩
def isDrawn : Cfg → Bool
  | ⟨⟨_, _, _, .code (.region _ _ true) :: _⟩, _, _, _⟩ => true
  | _ => false
def execX (P : Program) (M : Mode) (ro : Hp) : Nat → List Prop → Cfg → List Prop × Cfg
  | 0, acc, c => (acc, c)
  | n + 1, acc, c => match stepD P M ro c with
    | none => (acc, c)
    | some (cs, c') => match pushAll cs acc with
      | [] => match isDrawn c with
        | true => execX P M ro n [] (decAll c')
        | false => execX P M ro n [] (decTop c')
      | p :: ps => match isDrawn c with
        | true => execX P M ro n (p :: ps) (decAll c')
        | false => execX P M ro n (p :: ps) (decTop c')
/-- Whether the slot that was put last is one of these. -/
def atS (S : List (Nat × Nat)) : Cfg → Bool
  | ⟨⟨fn, _, (d, .sb _) :: _, _⟩, _, _, _⟩ => S.any fun p => Nat.beq p.1 fn.f && Nat.beq p.2 d
  | _ => false
/-- The same, up to a truth value in one of the slots S. -/
def execY (P : Program) (M : Mode) (ro : Hp) (S : List (Nat × Nat)) : Nat → List Prop → Cfg → List Prop × Cfg
  | 0, acc, c => (acc, c)
  | n + 1, acc, c => match stepD P M ro c with
    | none => (acc, c)
    | some (cs, c') => match pushAll cs acc with
      | [] => match atS S c' with
        | true => ([], c')
        | false => execY P M ro S n [] (decTop c')
      | p :: ps => match atS S c' with
        | true => (p :: ps, c')
        | false => execY P M ro S n (p :: ps) (decTop c')
section
variable {P : Program} {M : Mode} {ro : Hp} {B : Base} {f : FuncId} {R : Ending → World → Prop}
theorem run_dec {c : Cfg} (h : Run P ro B f R (decTop c)) : Run P ro B f R c := by
  unfold decTop at h
  split at h
  · rename_i fn n d b sl td rest hp nx
    have key : ∀ v : SV, (∀ β u, Rel β (.sb b) u → Rel β v u) → Run P ro B f R ⟨⟨fn, n, (d, v) :: sl, td⟩, rest, hp, nx⟩ → Run P ro B f R ⟨⟨fn, n, (d, .sb b) :: sl, td⟩, rest, hp, nx⟩ := by
      intro v hv hr
      refine run_slots (fun β g hs t u hu => ?_) hr
      simp only [look] at hu ⊢
      cases hb : Nat.beq t d with
      | true =>
        rw [hb] at hu; simp only [cond_true, Option.some.injEq] at hu
        subst hu
        exact ⟨hv β _ (hs t (.sb b) (by simp only [look, hb]; rfl)), _, rfl⟩
      | false =>
        rw [hb] at hu; simp only [cond_false] at hu
        exact ⟨hs t u (by simp only [look, hb]; exact hu), u, hu⟩
    cases b with
    | true => exact key .tt (fun _ _ h => h) h
    | false => exact key .ff (fun _ _ h => h) h
  · exact h
theorem execY_acc {S : List (Nat × Nat)} : ∀ {n : Nat} {acc : List Prop} {c : Cfg} {p : Prop}, p ∈ acc → p ∈ (execY P M ro S n acc c).1
  | 0, acc, c, p, h => h
  | n + 1, acc, c, p, h => by
    simp only [execY]
    split
    · exact h
    · rename_i cs c' _
      have hm : p ∈ pushAll cs acc := pushAll_mem (.inr h)
      split
      · rename_i e; rw [e] at hm; cases hm
      · rename_i q qs e
        rw [e] at hm
        split
        · exact hm
        · exact execY_acc hm
theorem execY_run {S : List (Nat × Nat)} (hstep : ∀ {c c' : Cfg} {cs : List Prop}, stepD P M ro c = some (cs, c') → All cs → Run P ro B f R c' → Run P ro B f R c) :
    ∀ {n : Nat} {acc cs : List Prop} {c c' : Cfg}, execY P M ro S n acc c = (cs, c') → All cs → Run P ro B f R c' → Run P ro B f R c
  | 0, acc, cs, c, c', h, hc, hr => by simp only [execY, Prod.mk.injEq] at h; obtain ⟨rfl, rfl⟩ := h; exact hr
  | n + 1, acc, cs, c, c', h, hc, hr => by
    have h' := h
    simp only [execY] at h
    split at h
    · simp only [Prod.mk.injEq] at h; obtain ⟨rfl, rfl⟩ := h; exact hr
    · rename_i ds c1 e1
      have own : All ds := by
        intro p hp
        apply hc
        have hm : p ∈ pushAll ds acc := pushAll_mem (.inl hp)
        split at h
        · rename_i e; rw [e] at hm; cases hm
        · rename_i q qs e
          rw [e] at hm
          split at h
          · simp only [Prod.mk.injEq] at h; obtain ⟨rfl, rfl⟩ := h; exact hm
          · have := execY_acc (P := P) (M := M) (ro := ro) (S := S) (n := n) (c := decTop c1) hm
            rw [h] at this; exact this
      refine hstep e1 own ?_
      split at h
      · split at h
        · simp only [Prod.mk.injEq] at h; obtain ⟨rfl, rfl⟩ := h; exact hr
        · exact run_dec (execY_run hstep h hc hr)
      · split at h
        · simp only [Prod.mk.injEq] at h; obtain ⟨rfl, rfl⟩ := h; exact hr
        · exact run_dec (execY_run hstep h hc hr)
theorem run_goY (hmix : P.follows .mixedOrders = true) (hP : Named P) (hB : B.ok) (hM : SumOk P M.sum) (S : List (Nat × Nat)) (m : Nat) {cs : List Prop} {c c' : Cfg} (h : execY P M ro S m [] c = (cs, c')) (hc : conj cs)
    (hr : Run P ro B f R c') : Run P ro B f R c :=
  execY_run (fun h hc hr => stepD_run hmix hP hB hM h hc hr) h (all_conj hc) hr
theorem run_tt {fn : FId} {n d : Nat} {b : Bool} {sl : Slots} {td : List SI} {rest : List SFr} {hp : Hp} {nx : Nat} (h : b = true) (hr : Run P ro B f R ⟨⟨fn, n, (d, .tt) :: sl, td⟩, rest, hp, nx⟩) : Run P ro B f R ⟨⟨fn, n, (d, .sb b) :: sl, td⟩, rest, hp, nx⟩ := by
  subst h; exact run_dec hr
theorem run_ff {fn : FId} {n d : Nat} {b : Bool} {sl : Slots} {td : List SI} {rest : List SFr} {hp : Hp} {nx : Nat} (h : b = false) (hr : Run P ro B f R ⟨⟨fn, n, (d, .ff) :: sl, td⟩, rest, hp, nx⟩) : Run P ro B f R ⟨⟨fn, n, (d, .sb b) :: sl, td⟩, rest, hp, nx⟩ := by
  subst h; exact run_dec hr
end
end Sx
end
section
namespace Sx
open Go
def mlenArg (P : Program) (sl : Slots) : Op → Option (List Prop × Nat)
  | .call { callee := .builtin .len, args := as, argTypes := ts } => match ts.toList, evList sl as.toList with
    | [t], some (cs, [.mp i]) => match P.underlying t with
      | some (.map _ _) => some (cs, i)
      | _ => none
    | _, _ => none
  | _ => none
def keyOf (v : Value) : Int :=
  match v with
  | .int _ a => a
  | _ => 0
section
variable {P : Program} {ro : Hp} {B : Base} {f : FuncId} {R : Ending → World → Prop}
end
end Sx
end
section
namespace Sx
open Go

/-- What is known of some blocks. -/
abbrev Kn := Nat → Option Obj
/-- From B, where K0 is known, to B, where K is known: only what M names may have changed, and what is new was not there before. -/
structure Fz (B0 : Base) (K0 : Kn) (M : Nat → Prop) (B : Base) (K : Kn) : Prop where
  ok : B.ok
  kd : B.kd = B0.kd
  pin : B0.pin.le B.pin
  os : B.w.os = B0.w.os
  tape : B.w.tape = B0.w.tape
  output : B.w.output = B0.w.output
  size : B0.w.heap.size ≤ B.w.heap.size
  keep : ∀ b o, B0.D b = some o → ¬ M b → B.D b = some o
  le : ∀ b o, K b = some o → B.D b = some o
  old : ∀ b o, K0 b = some o → ¬ M b → K b = some o
  new : ∀ b o, K b = some o → K0 b ≠ none ∨ B0.D b = none
abbrev M0 : Nat → Prop := fun _ => False
theorem Fz.refl {B : Base} {K : Kn} {M : Nat → Prop} (hB : B.ok) (hK : ∀ b o, K b = some o → B.D b = some o) : Fz B K M B K :=
  ⟨hB, rfl, Env.le_refl _, rfl, rfl, rfl, Nat.le_refl _, fun _ _ h _ => h, hK, fun _ _ h _ => h, fun _ _ h => .inl (by rw [h]; simp)⟩
theorem Fz.trans {B0 B1 B2 : Base} {K0 K1 K2 : Kn} {M M' : Nat → Prop} (h : Fz B0 K0 M B1 K1) (g : Fz B1 K1 M' B2 K2) (hK : ∀ b o, K0 b = some o → B0.D b = some o) (hM : ∀ b, M b → K0 b ≠ none) (hMM : ∀ b, M' b → M b ∨ B0.D b = none) : Fz B0 K0 M B2 K2 := by
  refine ⟨g.ok, g.kd.trans h.kd, Env.le_trans h.pin g.pin, g.os.trans h.os, g.tape.trans h.tape, g.output.trans h.output, Nat.le_trans h.size g.size, fun b o e hm => ?_, g.le, fun b o e hm => ?_, fun b o e => ?_⟩
  · refine g.keep b o (h.keep b o e hm) fun hm' => ?_
    rcases hMM b hm' with q | q
    · exact hm q
    · rw [e] at q; cases q
  · refine g.old b o (h.old b o e hm) fun hm' => ?_
    rcases hMM b hm' with q | q
    · exact hm q
    · rw [hK b o e] at q; cases q
  · rcases g.new b o e with q | q
    · cases hk : K1 b with
      | none => exact absurd hk q
      | some o1 => exact h.new b o1 hk
    · by_cases hm : M b
      · exact .inl (hM b hm)
      · right
        cases hb : B0.D b with
        | none => rfl
        | some o1 => rw [h.keep b o1 hb hm] at q; cases q
theorem Fz.trans0 {B0 B1 B2 : Base} {K0 K1 K2 : Kn} {M : Nat → Prop} (h : Fz B0 K0 M B1 K1) (g : Fz B1 K1 M0 B2 K2) (hK : ∀ b o, K0 b = some o → B0.D b = some o) (hM : ∀ b, M b → K0 b ≠ none) : Fz B0 K0 M B2 K2 := h.trans g hK hM fun _ h => h.elim
theorem Fz.more {B0 B1 B2 : Base} {K0 K1 : Kn} {M : Nat → Prop} (h : Fz B0 K0 M B1 K1) (g : More B1 B2) : Fz B0 K0 M B2 K1 := by
  obtain ⟨D2, w2, p2, k2⟩ := B2
  obtain ⟨g1, g2, g3, g4⟩ := g
  simp only at g1 g2 g3 g4
  subst g1 g2 g4
  exact ⟨h.ok, h.kd, Env.le_trans h.pin g3, h.os, h.tape, h.output, h.size, h.keep, h.le, h.old, h.new⟩
/-- The base before stands as well, where nothing known may change. -/
theorem Fz.sat {B0 B : Base} {K0 K : Kn} (h : Fz B0 K0 M0 B K) {β : Env} {hp : Hp} {nx : Nat} {w : World} (hs : Sat β hp [] B nx w) : Sat β hp [] B0 nx w := by
  refine ⟨⟨fun i s hi hl => ?_, hs.apart, fun _ _ h => (none_ne h).elim, fun b o e => hs.old b o (h.keep b o e (fun h => h)), hs.os.trans h.os, hs.tape.trans h.tape, hs.output.trans h.output, Nat.le_trans h.size hs.size, Env.le_trans h.pin hs.pin⟩, hs.fresh⟩
  obtain ⟨b, o, h1, h2, h3, h4, h5⟩ := hs.own i s hi hl
  refine ⟨b, o, h1, ?_, h3, h4, h5⟩
  cases hb : B0.D b with
  | none => rfl
  | some o' => rw [h.keep b o' hb (fun h => h)] at h2; cases h2

theorem PinTo.fz {B B' : Base} {np : Nat} {K K' : Kn} {M : Nat → Prop} (h : PinTo B np) (hF : Fz B K M B' K') (hp : B'.pin = B.pin) : PinTo B' np := ⟨fun i hi => by rw [hp]; exact h.p i hi, hF.kd.trans h.k⟩
/-- v is a slice of n elements of sz cells, which are f: known for good. -/
def Froz (K : Kn) (v : Value) (n sz : Nat) (f : Nat → Nat → SV) : Prop :=
  ∃ base room, v = .slice base n room ∧ (base = none → room = 0) ∧
    (0 < n → n ≤ room ∧ ∃ b o c tt fz, base = some ⟨b, o, none⟩ ∧ K b = some (.cells c tt fz) ∧ ∀ i k, i < n → k < sz → ∃ u, c[o + i * sz + k]? = some u ∧ Rel Env.nil (f i k) u)
theorem Froz.mono {K K' : Kn} {v : Value} {n sz : Nat} {f : Nat → Nat → SV} (h : Froz K v n sz f) (g : ∀ b o, K b = some o → K' b = some o) : Froz K' v n sz f := by
  obtain ⟨base, room, h1, h2, h3⟩ := h
  refine ⟨base, room, h1, h2, fun h0 => ?_⟩
  obtain ⟨h4, b, o, c, tt, fz, h5, h6, h7⟩ := h3 h0
  exact ⟨h4, b, o, c, tt, fz, h5, g _ _ h6, h7⟩
theorem Froz.fz {B B' : Base} {K K' : Kn} {v : Value} {n sz : Nat} {f : Nat → Nat → SV} (h : Froz K v n sz f) (g : Fz B K M0 B' K') : Froz K' v n sz f := h.mono fun b o e => g.old b o e (fun h => h)
theorem Froz.nil (K : Kn) (sz : Nat) (f : Nat → Nat → SV) : Froz K (.slice none 0 0) 0 sz f := ⟨none, 0, rfl, fun _ => rfl, fun h => absurd h (Nat.lt_irrefl 0)⟩
theorem Froz.congr {K : Kn} {v : Value} {n sz : Nat} {f g : Nat → Nat → SV} (h : Froz K v n sz f) (e : ∀ i k, i < n → k < sz → g i k = f i k) : Froz K v n sz g := by
  obtain ⟨base, room, h1, h2, h3⟩ := h
  refine ⟨base, room, h1, h2, fun h0 => ?_⟩
  obtain ⟨h4, b, o, c, tt, fz, h5, h6, h7⟩ := h3 h0
  refine ⟨h4, b, o, c, tt, fz, h5, h6, fun i k hi hk => ?_⟩
  rw [e i k hi hk]; exact h7 i k hi hk
section
variable {P : Program} {ro : Hp} {B : Base} {f : FuncId} {R : Ending → World → Prop}
/-- A known slice is laid open to be read. -/
theorem run_open {K : Kn} (hK : ∀ b o, K b = some o → B.D b = some o) (t : Nat) {v : Value} {m sz : Nat} {g : Nat → Nat → SV} (hF : Froz K v m sz g) (hsz : 0 < sz) {fn : FId} {n : Nat} {sl : Slots} {td : List SI} {rest : List SFr} {hp : Hp} {nx : Nat} (ht : look t sl = some (.val v))
    (hr : ∀ off, Run P ((nx, .row off m m sz g anyTy) :: ro) B f R ⟨⟨fn, n, (t, .sq nx off 0 sz m .no) :: sl, td⟩, rest, hp, nx + 1⟩) : Run P ro B f R ⟨⟨fn, n, sl, td⟩, rest, hp, nx⟩ := by
  intro β w fr frs cs hf hfs hs hcs
  obtain ⟨base, room, e1, e2, e3⟩ := hF
  have hv : fr.tmps.getD t undef = v := (hf.slot t _ ht).1
  have key : ∃ off, ∃ β' : Env, β.le β' ∧ Rel β' (.sq nx off 0 sz m .no) v ∧ Sat β' hp ((nx, .row off m m sz g anyTy) :: ro) B (nx + 1) w := by
    rcases Nat.eq_zero_or_pos m with h0 | h0
    · subst h0
      refine ⟨0, β, Env.le_refl _, ⟨base, room, e1, e2, fun h => (by cases h), fun h => (by cases h), fun h => absurd h (Nat.lt_irrefl _)⟩, ⟨⟨hs.own, hs.apart, fun i s hi hl => ?_, hs.old, hs.os, hs.tape, hs.output, hs.size, hs.pin⟩, fun i hi => hs.fresh i (by show nx ≤ i; omega)⟩⟩
      simp only [hget] at hi
      cases hb : Nat.beq i nx with
      | true => rw [hb] at hi; simp only [cond_true, Option.some.injEq] at hi; subst hi; exact absurd hl (Nat.lt_irrefl 0)
      | false => rw [hb] at hi; exact hs.read i s hi hl
    · obtain ⟨h4, b, o, c, tt, fz, h5, h6, h7⟩ := e3 h0
      have hfr := hs.fresh nx (Nat.le_refl _)
      have hle := Env.le_add (b := b) (r := 0) hfr
      have hne : ∀ i b', β i = some b' → i ≠ nx := by
        intro i b' h e; subst e; rw [hfr] at h; cases h
      refine ⟨o, β.add nx b 0, hle, ⟨base, room, e1, e2, fun h => (by cases h), fun h => (by cases h), fun _ => ⟨h4, b, Env.add_same _ _ _ _, by rw [h5]; simp, fun h => (by cases h)⟩⟩, ⟨⟨fun i s hi hl => ?_, fun i j s t hi hj hl ht hij => ?_, fun i s hi hl => ?_, hs.old, hs.os, hs.tape, hs.output, hs.size, Env.le_trans hs.pin hle⟩, fun i hi => ?_⟩⟩
      · obtain ⟨b', o', h1, h2, h3, h4, h5⟩ := hs.own i s hi hl
        have hn := hne i b' h1
        exact ⟨b', o', (Env.add_other _ _ _ hn).trans h1, h2, h3, ORel.mono hle _ _ h4, by rw [Env.add_room_other _ _ _ hn]; exact h5⟩
      · obtain ⟨b1, o1, h1, _⟩ := hs.own i s hi hl
        obtain ⟨b2, o2, h2, _⟩ := hs.own j t hj ht
        rw [Env.add_other _ _ _ (hne i b1 h1), Env.add_other _ _ _ (hne j b2 h2)]
        exact hs.apart i j s t hi hj hl ht hij
      · simp only [hget] at hi
        cases hb : Nat.beq i nx with
        | true =>
          rw [hb] at hi; simp only [cond_true, Option.some.injEq] at hi; subst hi
          have := beq_nat hb; subst this
          refine ⟨b, _, Env.add_same _ _ _ _, hK _ _ h6, c, fz, tt, .inl rfl, rfl, Nat.le_refl _, ?_, fun i k hi hk => ?_⟩
          · obtain ⟨u, hu, _⟩ := h7 (m - 1) (sz - 1) (by omega) (by omega)
            have := (Array.getElem?_eq_some_iff.1 hu).1
            have h8 : (m - 1) * sz + sz = m * sz := by
              obtain ⟨q, rfl⟩ : ∃ q, m = q + 1 := ⟨m - 1, by omega⟩
              simp [Nat.succ_mul]
            omega
          · obtain ⟨u, hu, hr⟩ := h7 i k hi hk
            exact ⟨u, hu, Rel.mono (Env.nil_le _) _ _ hr⟩
        | false =>
          rw [hb] at hi
          obtain ⟨b', o', h1, h2, h3⟩ := hs.read i s hi hl
          exact ⟨b', o', (Env.add_other _ _ _ (hne i b' h1)).trans h1, h2, ORel.mono hle _ _ h3⟩
      · rw [Env.add_other _ _ _ (by omega)]; exact hs.fresh i (by show nx ≤ i; omega)
  obtain ⟨off, β', hle, hrel, hs'⟩ := key
  refine hr off β' w fr frs cs ?_ (hfs.mono hle) hs' hcs
  have hf' := hf.mono hle
  refine { hf' with slot := fun t' u hu => ?_, lt := fun t' u hu => ?_ }
  · simp only [look] at hu
    cases hb : Nat.beq t' t with
    | true =>
      rw [hb] at hu; simp only [cond_true, Option.some.injEq] at hu; subst hu
      have := beq_nat hb; subst this
      rw [hv]; exact hrel
    | false => rw [hb] at hu; exact hf'.slot t' u hu
  · simp only [look] at hu
    cases hb : Nat.beq t' t with
    | true => have := beq_nat hb; subst this; exact hf.lt t' _ ht
    | false => rw [hb] at hu; exact hf'.lt t' u hu
/-- Rows to read are given up. -/
theorem run_close {x : Nat × SO} {c : Cfg} (hx : hget x.1 ro = none ∨ ∀ s, hget x.1 ro = some s → ¬ s.Live) (hr : Run P ro B f R c) : Run P (x :: ro) B f R c := by
  intro β w fr frs cs hf hfs hs
  refine hr β w fr frs cs hf hfs ⟨⟨hs.own, hs.apart, fun i s hi hl => ?_, hs.old, hs.os, hs.tape, hs.output, hs.size, hs.pin⟩, hs.fresh⟩
  refine hs.read i s ?_ hl
  obtain ⟨j, y⟩ := x
  simp only [hget]
  cases hb : Nat.beq i j with
  | true =>
    have := beq_nat hb; subst this
    rcases hx with hx | hx
    · simp only at hx; rw [hx] at hi; cases hi
    · exact absurd hl (hx s hi)
  | false => exact hi
/-- A slice's row is written no more. -/
theorem run_freeze {K : Kn} (hB : B.ok) (hK : ∀ b o, K b = some o → B.D b = some o) (t : Nat) {i off sz m m' cap : Nat} {ap : Ap} {g : Nat → Nat → SV} {ty : TypeId} {fn : FId} {n : Nat} {sl : Slots} {td : List SI} {rest : List SFr} {hp hp' : Hp} {nx : Nat}
    (ht : look t sl = some (.sq i off 0 sz m ap)) (hi : hget i hp = some (.row off m' cap sz g ty)) (hm : m ≤ m') (hcl : ∀ i k, i < m → k < sz → (g i k).closed = true) (hd : hdrop [i] hp some = some hp')
    (hr : ∀ v B' K', Froz K' v m sz g → Fz B K M0 B' K' → B'.pin = B.pin → Run P ro B' f R ⟨⟨fn, n, (t, .val v) :: sl, td⟩, rest, hp', nx⟩) : Run P ro B f R ⟨⟨fn, n, sl, td⟩, rest, hp, nx⟩ := by
  intro β w fr frs cs hf hfs hs hcs
  rw [hdrop_eq] at hd
  injection hd with hd; subst hd
  obtain ⟨base, room, e1, e2, e3, e4, e5⟩ := hf.slot t _ ht
  have own' : ∀ j s, hget j (hdrop' [i] hp) = some s → hget j hp = some s ∧ j ≠ i := by
    intro j s hj
    rw [hdrop_get] at hj
    split at hj
    · cases hj
    · rename_i hn; exact ⟨hj, fun e => hn (by rw [e]; exact List.mem_singleton.2 rfl)⟩
  have hfs' : FrRel β ⟨fn, n, (t, .val (fr.tmps.getD t undef)) :: sl, td⟩ fr := by
    refine { hf with slot := fun t' u hu => ?_, lt := fun t' u hu => ?_ }
    · simp only [look] at hu
      cases hb : Nat.beq t' t with
      | true =>
        rw [hb] at hu; simp only [cond_true, Option.some.injEq] at hu; subst hu
        have := beq_nat hb; subst this
        refine ⟨rfl, ?_⟩
        rw [e1]; rfl
      | false => rw [hb] at hu; exact hf.slot t' u hu
    · simp only [look] at hu
      cases hb : Nat.beq t' t with
      | true => have := beq_nat hb; subst this; exact hf.lt t' _ ht
      | false => rw [hb] at hu; exact hf.lt t' u hu
  rcases Nat.eq_zero_or_pos m with h0 | h0
  · subst h0
    refine hr _ B K ⟨base, room, e1, e2, fun h => absurd h (Nat.lt_irrefl _)⟩ (.refl hB hK) rfl β w fr frs cs hfs' hfs ⟨⟨fun j s hj hl => hs.own j s (own' j s hj).1 hl, fun j k s u hj hk => hs.apart j k s u (own' j s hj).1 (own' k u hk).1, hs.read, hs.old, hs.os, hs.tape, hs.output, hs.size, hs.pin⟩, hs.fresh⟩ hcs
  · obtain ⟨b, o, h1, h2, h3, h4, h5⟩ := hs.own i _ hi (show 0 < m' by omega)
    obtain ⟨c, fz, tt, q1, q2, q3, q4, q5⟩ := h4
    obtain ⟨g1, b', g2, g3, _⟩ := e5 h0
    rw [h1] at g2; injection g2 with g2; subst g2
    have KB : ∀ x, (if x = b then some o else B.D x) = if x = b then some o else B.D x := fun _ => rfl
    let B' : Base := ⟨fun x => if x = b then some o else B.D x, w, B.pin, B.kd⟩
    let K' : Kn := fun x => if x = b then some o else K x
    have hBb : ∀ x o', B.D x = some o' → x ≠ b := by
      intro x o' hx e; subst e; rw [h2] at hx; cases hx
    have hF : Fz B K M0 B' K' := by
      refine ⟨fun x o' hx => ?_, rfl, Env.le_refl _, hs.os, hs.tape, hs.output, hs.size, fun x o' hx _ => ?_, fun x o' hx => ?_, fun x o' hx _ => ?_, fun x o' hx => ?_⟩
      · by_cases e : x = b
        · subst e; exact (Array.getElem?_eq_some_iff.1 h3).1
        · have hx : B.D x = some o' := by simpa [B', e] using hx
          exact Nat.lt_of_lt_of_le (hB x o' hx) hs.size
      · show (if x = b then some o else B.D x) = some o'
        rw [if_neg (hBb x o' hx)]; exact hx
      · show (if x = b then some o else B.D x) = some o'
        by_cases e : x = b
        · simpa [K', e] using hx
        · rw [if_neg e]; exact hK x o' (by simpa [K', e] using hx)
      · show (if x = b then some o else K x) = some o'
        rw [if_neg (hBb x o' (hK x o' hx))]; exact hx
      · by_cases e : x = b
        · subst e; exact .inr h2
        · left; have : K x = some o' := by simpa [K', e] using hx
          rw [this]; simp
    refine hr _ B' K' ⟨base, room, e1, e2, fun _ => ⟨g1, b, off, c, tt, fz, by rw [g3]; simp, by show (if b = b then some o else K b) = _; rw [if_pos rfl, q2], fun i k hi hk => ?_⟩⟩ hF rfl β w fr frs cs hfs' hfs ?_ hcs
    · obtain ⟨u, hu, hr⟩ := q5 i k (by omega) hk
      exact ⟨u, hu, Rel.closed _ _ (hcl i k hi hk) hr⟩
    · refine ⟨⟨fun j s hj hl => ?_, fun j k s u hj hk => hs.apart j k s u (own' j s hj).1 (own' k u hk).1, fun j s hj hl => ?_, fun x o' hx => ?_, rfl, rfl, rfl, Nat.le_refl _, hs.pin⟩, hs.fresh⟩
      · obtain ⟨hj, hne⟩ := own' j s hj
        obtain ⟨bj, oj, j1, j2, j3, j4, j5⟩ := hs.own j s hj hl
        refine ⟨bj, oj, j1, ?_, j3, j4, j5⟩
        show (if bj = b then some o else B.D bj) = none
        rw [if_neg, j2]
        intro e
        exact hs.apart j i s _ hj hi hl (show 0 < m' by omega) hne (by rw [j1, h1, e])
      · obtain ⟨bj, oj, j1, j2, j3⟩ := hs.read j s hj hl
        refine ⟨bj, oj, j1, ?_, j3⟩
        show (if bj = b then some o else B.D bj) = some oj
        rw [if_neg (hBb bj oj j2)]; exact j2
      · have hx : (if x = b then some o else B.D x) = some o' := hx
        by_cases e : x = b
        · subst e; simp at hx; subst hx; exact h3
        · rw [if_neg e] at hx; exact hs.old x o' hx
end

theorem Sat.calledX {β : Env} {hp ro hpc roc : Hp} {B : Base} {nx : Nat} {w : World} (hs : Sat β hp ro B nx w) (hB : B.ok) {K : Kn} {M : Nat → Prop} (hK : ∀ b o, K b = some o → B.D b = some o) (hM : ∀ b, M b → K b ≠ none) (hro : ro = [] ∨ ∀ b, ¬ M b) {sg : List Nat} {ds es : List Prop}
    (hlt : allLt nx sg = true) (hcov : cover (hkeys hpc ++ hkeys roc) sg.length = true) (h2 : hpM nx sg hp hpc = some ds) (h2' : orM nx sg hp ro roc = some es) (h3 : dist nx sg (hkeys hpc ++ hkeys roc) = true) (hds : All ds) (hes : All es) :
    ∃ B1 : Base, B1.ok ∧ (∀ b o, K b = some o → B1.D b = some o) ∧ Sat (β.via nx sg) hpc roc B1 sg.length w ∧ ∀ (β2 : Env) (w' : World) (hz : Hp) (nz : Nat) (B1' : Base) (K' : Kn), (β.via nx sg).le β2 → Fz B1 K M B1' K' → Sat β2 hz roc B1' nz w' → sg.length ≤ nz →
      ∃ (β'' : Env) (B2 : Base), β.le β'' ∧ (∀ s v, Rel β2 s v → Rel β'' (ren nx sg s) v) ∧ Fz B K M B2 K' ∧ B2.pin = B.pin ∧ Sat β'' (renH' nx sg (hdrop' ((hkeys hpc).map (sig nx sg)) hp) hz) ro B2 (nx + (nz - sg.length)) w' := by
  -- the callee's ground: all that is not handed in
  let foot : Nat → Prop := fun b => ∃ i so s, hget i hpc = some so ∧ hget (sig nx sg i) hp = some s ∧ s.Live ∧ β (sig nx sg i) = some b
  have hD : ∀ (b : Nat), (∃ d : Option Obj, (foot b → d = none) ∧ (¬ foot b → d = w.heap[b]?)) := fun b => by
    by_cases h : foot b
    · exact ⟨none, fun _ => rfl, fun g => absurd h g⟩
    · exact ⟨_, fun g => absurd g h, fun _ => rfl⟩
  have ⟨D, hD⟩ : ∃ D : Nat → Option Obj, ∀ b, (foot b → D b = none) ∧ (¬ foot b → D b = w.heap[b]?) := ⟨fun b => Classical.choose (hD b), fun b => Classical.choose_spec (hD b)⟩
  have hDs : ∀ b o, D b = some o → ¬ foot b ∧ w.heap[b]? = some o := fun b o e => by
    by_cases h : foot b
    · rw [(hD b).1 h] at e; cases e
    · exact ⟨h, by rw [← (hD b).2 h]; exact e⟩
  have hlt' := allLt_spec hlt
  have footD : ∀ b, foot b → B.D b = none := by
    rintro b ⟨i, so, s, _, e1, e2, e3⟩
    obtain ⟨b', o, g1, g2, _⟩ := hs.own _ _ e1 e2
    rw [e3] at g1; injection g1 with g1; subst g1; exact g2
  have hinj : ∀ a b : Nat, sig nx sg a = sig nx sg b → a = b := by
    intro a b e
    rcases Nat.lt_or_ge a sg.length with g | g <;> rcases Nat.lt_or_ge b sg.length with g' | g'
    · by_cases h : a = b
      · exact h
      · exact absurd e (dist_spec h3 (cover_spec hcov a g) (cover_spec hcov b g') h)
    · obtain ⟨j, j1, j2⟩ := sig_lt (nx := nx) g
      have := hlt' _ (List.mem_of_getElem? j1)
      rw [sig_ge g'] at e; omega
    · obtain ⟨j, j1, j2⟩ := sig_lt (nx := nx) g'
      have := hlt' _ (List.mem_of_getElem? j1)
      rw [sig_ge g] at e; omega
    · rw [sig_ge g, sig_ge g'] at e; omega
  have lent : ∀ i so, hget i roc = some so → so.Live → ∃ b o, β (sig nx sg i) = some b ∧ w.heap[b]? = some o ∧ ¬ foot b ∧ ORel (β.via nx sg) so o := by
    intro i so hi hl
    obtain ⟨s, cs, e1, e2, e3⟩ := orM_spec h2' hes hi hl
    have hsl := eqO_live e2 e3 hl
    rcases e1 with e1 | e1
    · obtain ⟨b, o, g1, g2, g3, g4, g5⟩ := hs.own _ _ e1 hsl
      refine ⟨b, o, g1, g3, ?_, eqO_rel e2 e3 g4⟩
      rintro ⟨j, so', s', j0, j1, j2, j3⟩
      by_cases hij : sig nx sg i = sig nx sg j
      · have := hinj i j hij
        subst this
        -- one key on both sides: the list's keys are told apart by their place
        have : ∀ (a b : List Nat), dist nx sg (a ++ b) = true → ∀ x, x ∈ a → x ∈ b → False := by
          intro a b
          induction a with
          | nil => intro _ x hx; cases hx
          | cons y a ih =>
            intro hd x hx hxb
            simp only [List.cons_append, dist, Bool.and_eq_true, Bool.not_eq_true'] at hd
            cases hx with
            | head =>
              have : hasN (sig nx sg y) ((a ++ b).map (sig nx sg)) = true := hasN_iff.2 (List.mem_map_of_mem (List.mem_append_right _ hxb))
              rw [this] at hd; cases hd.1
            | tail _ hx => exact ih hd.2 x hx hxb
        exact this _ _ h3 i (hkeys_mem j0) (hkeys_mem hi)
      · exact hs.apart _ _ _ _ e1 j1 hsl j2 hij (g1.trans j3.symm)
    · obtain ⟨b, o, g1, g2, g3⟩ := hs.read _ _ e1 hsl
      refine ⟨b, o, g1, hs.old b o g2, ?_, eqO_rel e2 e3 g3⟩
      intro hf
      rw [footD b hf] at g2; cases g2
  have notM : ∀ b, B.D b = none → ¬ M b := fun b e hm => by
    have := hM b hm
    cases hk : K b with
    | none => exact this hk
    | some o => rw [hK b o hk] at e; cases e
  have KD : ∀ b o, K b = some o → D b = some o := fun b o e => by
    have h1 := hK b o e
    have hf : ¬ foot b := fun hf => by rw [footD b hf] at h1; cases h1
    rw [(hD b).2 hf]; exact hs.old b o h1
  refine ⟨⟨D, w, Env.nil, Kind.norm⟩, fun b o e => (Array.getElem?_eq_some_iff.1 (hDs b o e).2).1, KD, ?_, ?_⟩
  · refine ⟨⟨?_, ?_, ?_, fun b o e => (hDs b o e).2, rfl, rfl, rfl, Nat.le_refl _, Env.nil_le _⟩, ?_⟩
    · intro i s hi hl
      obtain ⟨s0, cs, e1, e2, e3⟩ := hpM_spec h2 hds hi hl
      have hsl := eqO_live e2 e3 hl
      obtain ⟨b, o, g1, g2, g3, g4, g5⟩ := hs.own _ _ e1 hsl
      exact ⟨b, o, g1, (hD b).1 ⟨i, s, s0, hi, e1, hsl, g1⟩, g3, eqO_rel e2 e3 g4, g5⟩
    · intro i j s t hi hj ls lt hne
      obtain ⟨s0, cs, e1, e2, e3⟩ := hpM_spec h2 hds hi ls
      obtain ⟨s1, cs', e1', e2', e3'⟩ := hpM_spec h2 hds hj lt
      exact hs.apart _ _ _ _ e1 e1' (eqO_live e2 e3 ls) (eqO_live e2' e3' lt) (fun e => hne (hinj _ _ e))
    · intro i s hi hl
      obtain ⟨b, o, g1, g2, g3, g4⟩ := lent i s hi hl
      exact ⟨b, o, g1, by show D b = _; rw [(hD b).2 g3]; exact g2, g4⟩
    · intro i hi
      show β (sig nx sg i) = none
      rw [sig_ge hi]; exact hs.fresh _ (by omega)
  · intro β2 w' hz nz B1' K' hle hF hs2 hnz
    have Dkeep : ∀ b o, D b = some o → ¬ M b → B1'.D b = some o := fun b o h hm => hF.keep b o h hm
    have BD : ∀ b o, B.D b = some o → D b = some o := fun b o hb => by
      rw [(hD b).2 (fun hf => by rw [footD b hf] at hb; cases hb)]; exact hs.old b o hb
    have hex : ∀ b, ∃ d : Option Obj, (M b → d = K' b) ∧ (¬ M b → ∀ o, B.D b = some o → d = some o) ∧ (¬ M b → B.D b = none → d = K' b) := fun b => by
      by_cases hm : M b
      · exact ⟨K' b, fun _ => rfl, fun h => absurd hm h, fun h => absurd hm h⟩
      · cases hb : B.D b with
        | none => exact ⟨K' b, fun _ => rfl, fun _ _ h => (by cases h), fun _ _ => rfl⟩
        | some o => exact ⟨some o, fun h => absurd h hm, fun _ o' h => h, fun _ h => (by cases h)⟩
    obtain ⟨D2, hD2⟩ : ∃ D2 : Nat → Option Obj, ∀ b, (M b → D2 b = K' b) ∧ (¬ M b → ∀ o, B.D b = some o → D2 b = some o) ∧ (¬ M b → B.D b = none → D2 b = K' b) := ⟨fun b => Classical.choose (hex b), fun b => Classical.choose_spec (hex b)⟩
    have D2K : ∀ b o, K' b = some o → D2 b = some o := fun b o h => by
      by_cases hm : M b
      · rw [(hD2 b).1 hm]; exact h
      · cases hb : B.D b with
        | none => rw [(hD2 b).2.2 hm hb]; exact h
        | some o' =>
          have h1 := Dkeep b o' (BD b o' hb) hm
          rw [hF.le b o h] at h1
          rw [(hD2 b).2.1 hm o' hb, h1]
    have D2le : ∀ b o, D2 b = some o → B1'.D b = some o := fun b o h => by
      by_cases hm : M b
      · rw [(hD2 b).1 hm] at h; exact hF.le b o h
      · cases hb : B.D b with
        | none => rw [(hD2 b).2.2 hm hb] at h; exact hF.le b o h
        | some o' =>
          rw [(hD2 b).2.1 hm o' hb] at h
          injection h with h; subst h
          exact Dkeep b _ (BD b _ hb) hm
    have FB : Fz B K M ⟨D2, B1'.w, B.pin, B.kd⟩ K' := by
      refine ⟨fun b o h => hF.ok b o (D2le b o h), rfl, Env.le_refl _, hF.os.trans hs.os, hF.tape.trans hs.tape, hF.output.trans hs.output, Nat.le_trans hs.size hF.size, fun b o h hm => (hD2 b).2.1 hm o h, D2K, hF.old, fun b o h => ?_⟩
      rcases hF.new b o h with h1 | h1
      · exact .inl h1
      · right
        cases hb : B.D b with
        | none => rfl
        | some o' =>
          have h1 : D b = none := h1
          rw [BD b o' hb] at h1; cases h1
    have hE : ∀ j, ∃ x : Option Nat × Nat, (∀ i, sig nx sg i = j → x = (β2 i, β2.room i)) ∧ ((∀ i, sig nx sg i ≠ j) → x = (β j, β.room j)) := by
      intro j
      by_cases h : ∃ i, sig nx sg i = j
      · obtain ⟨i, rfl⟩ := h
        exact ⟨(β2 i, β2.room i), fun i' e => by rw [hinj _ _ e], fun g => absurd rfl (g i)⟩
      · exact ⟨(β j, β.room j), fun i e => absurd ⟨i, e⟩ h, fun _ => rfl⟩
    obtain ⟨x, hx⟩ : ∃ x : Nat → Option Nat × Nat, ∀ j, (∀ i, sig nx sg i = j → x j = (β2 i, β2.room i)) ∧ ((∀ i, sig nx sg i ≠ j) → x j = (β j, β.room j)) := ⟨fun j => Classical.choose (hE j), fun j => Classical.choose_spec (hE j)⟩
    obtain ⟨β'', hβ⟩ : ∃ β'' : Env, β'' = ⟨fun j => (x j).1, fun j => (x j).2⟩ := ⟨_, rfl⟩
    have hat : ∀ i, β'' (sig nx sg i) = β2 i := fun i => by rw [hβ]; show (x _).1 = _; rw [(hx _).1 i rfl]
    have hroom : ∀ i, β''.room (sig nx sg i) = β2.room i := fun i => by rw [hβ]; show (x _).2 = _; rw [(hx _).1 i rfl]
    have hvia : β''.via nx sg = β2 := by
      have e1 : (β''.via nx sg).f = β2.f := funext hat
      have e2 : (β''.via nx sg).room = β2.room := funext hroom
      cases β2; cases hh : β''.via nx sg
      rw [hh] at e1 e2
      simp only at e1 e2
      rw [e1, e2]
    have hle' : β.le β'' := by
      have key : ∀ j b, β j = some b → β'' j = some b ∧ β''.room j = β.room j := by
        intro j b hj
        by_cases h : ∃ i, sig nx sg i = j
        · obtain ⟨i, rfl⟩ := h
          have hv : (β.via nx sg) i = some b := hj
          exact ⟨(hat i).trans (hle i b hv), (hroom i).trans (hle.r i b hv)⟩
        · have := (hx j).2 (fun i e => h ⟨i, e⟩)
          rw [hβ]
          refine ⟨?_, ?_⟩
          · show (x j).1 = _; rw [this]; exact hj
          · show (x j).2 = _; rw [this]
      exact ⟨fun j b h => (key j b h).1, fun j b h => (key j b h).2⟩
    refine ⟨β'', ⟨D2, B1'.w, B.pin, B.kd⟩, ?_⟩
    have hrel : ∀ s v, Rel β2 s v → Rel β'' (ren nx sg s) v := fun s v h => (ren_rel s v).2 (by rw [hvia]; exact h)
    have horel : ∀ s o, ORel β2 s o → ORel β'' (renO nx sg s id) o := fun s o h => renO_rel (by rw [hvia]; exact h)
    -- the blocks of the caller's that were not handed in
    have kept : ∀ j s, hget j (hdrop' ((hkeys hpc).map (sig nx sg)) hp) = some s → s.Live → ∃ b o, β j = some b ∧ D2 b = none ∧ B1'.D b = some o ∧ w'.heap[b]? = some o ∧ ORel β s o ∧ Fit (β.room j) o ∧ hget j hp = some s := by
      intro j s hj hl
      rw [hdrop_get] at hj
      split at hj
      · cases hj
      rename_i hnk
      obtain ⟨b, o, g1, g2, g3, g4, g5⟩ := hs.own _ _ hj hl
      have hnf : ¬ foot b := by
        rintro ⟨i, so, s', i0, i1, i2, i3⟩
        refine hs.apart _ _ _ _ hj i1 hl i2 ?_ (g1.trans i3.symm)
        intro e; exact hnk (e ▸ List.mem_map_of_mem (hkeys_mem i0))
      have hDb : D b = some o := by rw [(hD b).2 hnf]; exact g3
      have hm := notM b g2
      have hD1 := Dkeep b o hDb hm
      refine ⟨b, o, g1, ?_, hD1, hs2.old b o hD1, g4, g5, hj⟩
      rw [(hD2 b).2.2 hm g2]
      cases hk : K' b with
      | none => rfl
      | some o' =>
        rcases hF.new b o' hk with h1 | h1
        · cases hk0 : K b with
          | none => exact absurd hk0 h1
          | some o2 => rw [hK b o2 hk0] at g2; cases g2
        · have h1 : D b = none := h1
          rw [hDb] at h1; cases h1
    -- what the callee hands back
    have back : ∀ j s, s.Live → (∃ i s0, j = sig nx sg i ∧ i ∈ hkeys hz ∧ (i, s0) ∈ hz ∧ s = renO nx sg s0 id ∧ ((∀ a b, a ∈ hkeys hz → b ∈ hkeys hz → sig nx sg a = sig nx sg b → a = b) → hget i hz = some s0)) →
        ∃ i s0 b o, j = sig nx sg i ∧ hget i hz = some s0 ∧ s0.Live ∧ β2 i = some b ∧ B1'.D b = none ∧ D2 b = none ∧ w'.heap[b]? = some o ∧ ORel β2 s0 o ∧ Fit (β2.room i) o ∧ s = renO nx sg s0 id := by
      rintro j s hl ⟨i, s0, e1, _, _, e4, e5⟩
      have e5 := e5 (fun a b _ _ e => hinj a b e)
      have hl0 : s0.Live := renO_live (e4 ▸ hl)
      obtain ⟨b, o, g1, g2, g3, g4, g5⟩ := hs2.own _ _ e5 hl0
      refine ⟨i, s0, b, o, e1, e5, hl0, g1, g2, ?_, g3, g4, g5, e4⟩
      cases hb : D2 b with
      | none => rfl
      | some o' => rw [D2le b o' hb] at g2; cases g2
    refine ⟨hle', hrel, FB, rfl, ⟨?_, ?_, ?_, ?_, ?_, ?_, ?_, ?_, ?_⟩, ?_⟩
    · intro j s hj hl
      rcases renH_get hj with h | h
      · obtain ⟨i, s0, b, o, e1, e2, _, g1, g2, g3, g4, g5, g6, rfl⟩ := back j s hl h
        exact ⟨b, o, by rw [e1]; exact (hat i).trans g1, g3, g4, horel _ _ g5, by rw [e1, hroom]; exact g6⟩
      · obtain ⟨b, o, g1, g2, _, g4, g5, g6, _⟩ := kept j s h hl
        exact ⟨b, o, hle' _ _ g1, g2, g4, ORel.mono hle' _ _ g5, by rw [hle'.r _ _ g1]; exact g6⟩
    · intro j k s t hj hk ls lt hne
      have mix : ∀ j k s t, s.Live → t.Live → (∃ i s0, j = sig nx sg i ∧ i ∈ hkeys hz ∧ (i, s0) ∈ hz ∧ s = renO nx sg s0 id ∧ ((∀ a b, a ∈ hkeys hz → b ∈ hkeys hz → sig nx sg a = sig nx sg b → a = b) → hget i hz = some s0)) →
          hget k (hdrop' ((hkeys hpc).map (sig nx sg)) hp) = some t → β'' j ≠ β'' k := by
        intro j k s t ls lt h h'
        obtain ⟨i, s0, b, o, e1, e2, _, g1, g2, _⟩ := back j s ls h
        obtain ⟨b', o', g1', _, g3', _⟩ := kept k t h' lt
        rw [e1, hat, g1, hle' _ _ g1']
        intro e; injection e with e; subst e; rw [g2] at g3'; cases g3'
      rcases renH_get hj with h | h <;> rcases renH_get hk with h' | h'
      · obtain ⟨i, s0, b, o, e1, e2, l1, g1, g2, g3, g4, g5, g6, rfl⟩ := back j s ls h
        obtain ⟨i', s0', b', o', e1', e2', l2, g1', g2', _⟩ := back k t lt h'
        rw [e1, e1', hat, hat]
        exact hs2.apart _ _ _ _ e2 e2' l1 l2 (fun e => hne (by rw [e1, e1', e]))
      · exact mix j k s t ls lt h h'
      · exact Ne.symm (mix k j t s lt ls h' h)
      · obtain ⟨b, o, g1, _, _, _, _, _, g7⟩ := kept j s h ls
        obtain ⟨b', o', g1', _, _, _, _, _, g7'⟩ := kept k t h' lt
        rw [hle' _ _ g1, hle' _ _ g1', ← g1, ← g1']
        exact hs.apart _ _ _ _ g7 g7' ls lt hne
    · intro i s hi hl
      rcases hro with rfl | hro
      · exact (none_ne hi).elim
      obtain ⟨b, o, g1, g2, g3⟩ := hs.read i s hi hl
      exact ⟨b, o, hle' _ _ g1, (hD2 b).2.1 (hro b) o g2, ORel.mono hle' _ _ g3⟩
    · intro b o hb
      exact hs2.old b o (D2le b o hb)
    · exact hs2.os
    · exact hs2.tape
    · exact hs2.output
    · exact hs2.size
    · exact Env.le_trans hs.pin hle'
    · intro i hi
      have : sig nx sg (sg.length + (i - nx)) = i := by rw [sig_ge (by omega)]; omega
      rw [← this, hat]
      exact hs2.fresh _ (by omega)

section
variable {ι : Type}
def HEndX (β : Env) (B : Base) (K : Kn) (M : Nat → Prop) (ro : Hp) (ψ : ι → Kn → Prop) (out : ι → Out) (e : Ending) (w' : World) : Prop :=
  ∃ z β' u B' K', ψ z K' ∧ β.le β' ∧ e = .returned u ∧ Rel β' (out z).r u ∧ Fz B K M B' K' ∧ Sat β' (out z).hp ro B' (out z).nx w'
/-- A contract that may leave blocks behind that are written no more (and may change those that M names). -/
def HCX (P : Program) (K : Kn) (M : Nat → Prop) (f : FuncId) (xs : List SV) (hp ro : Hp) (nx : Nat) (ψ : ι → Kn → Prop) (out : ι → Out) : Prop :=
  ∀ (B : Base) (β : Env) (w : World) (vs : List Value), B.ok → (∀ b o, K b = some o → B.D b = some o) → RelL β xs vs → Sat β hp ro B nx w → Calls P f vs.toArray w (HEndX β B K M ro ψ out)
theorem hcx_of_run {P : Program} {K : Kn} {M : Nat → Prop} {f : FuncId} {fn : Func} {c : Code} {xs : List SV} {hp ro : Hp} {nx : Nat} {ψ : ι → Kn → Prop} {out : ι → Out} (hfn : P.funcs[f]? = some fn) (hb : fn.body = some c)
    (h : ∀ B : Base, B.ok → (∀ b o, K b = some o → B.D b = some o) → PinTo B nx → Run P ro B f (HEndX B.pin B K M ro ψ out) ⟨⟨fid f, xs.length + (fn.ntmps - xs.length), enumFrom 0 xs, [.code c]⟩, [], hp, nx⟩) : HCX P K M f xs hp ro nx ψ out := by
  intro B β w vs hB hK hl hs
  have hs1 : Sat β hp ro ⟨B.D, B.w, β, Kind.norm⟩ nx w := ⟨⟨hs.own, hs.apart, hs.read, hs.old, hs.os, hs.tape, hs.output, hs.size, Env.le_refl _⟩, hs.fresh⟩
  refine (calls_of_run hfn hb hl hs1 (h ⟨B.D, B.w, β, Kind.norm⟩ hB hK ⟨hs.fresh, rfl⟩) rfl).mono ?_
  rintro e w' ⟨z, β', u, B', K', h1, h2, h3, h4, h5, h6⟩
  refine ⟨z, β', u, ⟨B'.D, B'.w, B.pin, B.kd⟩, K', h1, h2, h3, h4, ⟨h5.ok, rfl, Env.le_refl _, h5.os, h5.tape, h5.output, h5.size, h5.keep, h5.le, h5.old, h5.new⟩, ⟨h6.own, h6.apart, h6.read, h6.old, h6.os, h6.tape, h6.output, h6.size, Env.le_trans hs.pin h2⟩, h6.fresh⟩
/-- The same with another name for its answers. -/
theorem HCX.to {κ : Type} {P : Program} {K : Kn} {M : Nat → Prop} {f : FuncId} {xs : List SV} {hp ro : Hp} {nx : Nat} {ψ : ι → Kn → Prop} {out : ι → Out} {ψ' : κ → Kn → Prop} {out' : κ → Out} (h : HCX P K M f xs hp ro nx ψ out) (g : ∀ z K', ψ z K' → ∃ y, ψ' y K' ∧ out' y = out z) : HCX P K M f xs hp ro nx ψ' out' := by
  intro B β w vs h1 h2 h3 h4
  refine (h B β w vs h1 h2 h3 h4).mono ?_
  rintro e w' ⟨z, β', u, B', K', hψ, h⟩
  obtain ⟨y, h6, h7⟩ := g z K' hψ
  exact ⟨y, β', u, B', K', h6, by rw [h7]; exact h⟩
section
variable {P : Program} {ro : Hp} {B B' : Base} {f : FuncId} {K K' : Kn} {M : Nat → Prop} {ψ : ι → Kn → Prop} {out : ι → Out}
theorem run_retF (hF : Fz B K M B' K') {np : Nat} (hpin : PinTo B' np) (z : ι) (hψ : ψ z K') (sg : List Nat) {n : Nat} {sl : Slots} {td : List SI} {hp : Hp} {nx : Nat} {cs ds : List Prop} {v : SV} (hl : sg.length = (out z).nx) (hv : resV P f sl hp ro = some (cs, v)) (hc : conj cs)
    (hk : retC nx sg np ro hp (out z) v = some ds) (hds : conj ds) : Run P ro B' f (HEndX B.pin B K M ro ψ out) ⟨⟨fid f, n, sl, .code .ret :: td⟩, [], hp, nx⟩ := by
  unfold retC at hk
  cases hb : (dist nx sg (hkeys (out z).hp) && idTo nx sg np) with
  | false => rw [hb] at hk; cases hk
  | true =>
  rw [hb] at hk; simp only [cond_true] at hk
  simp only [Bool.and_eq_true] at hb
  split at hk <;> first | exact (none_ne hk).elim | skip
  rename_i a b c e1 e2 e3
  injection hk with hk; subst hk
  obtain ⟨h1, h2⟩ := conj_append hds
  obtain ⟨h2, h3⟩ := conj_append h2
  refine run_retK hv hc (fun β w u hs hu => ?_) hpin.k
  obtain ⟨z', β', u', g1, g2, g3, g4, g5⟩ := hend_of (ψ := fun y => y = z) hpin z rfl sg hl e1 e2 hb.1 e3 hb.2 h1 h2 h3 β w u hs hu
  subst g1
  exact ⟨z', β', u', B', K', hψ, Env.le_trans hF.pin g2, g3, g4, hF, g5⟩
theorem run_retMF (hF : Fz B K M B' K') {np : Nat} {B1 : Base} (hpin1 : PinTo B1 np) (hM1 : More B1 B') (hF1 : Fz B K M B1 K') (z : ι) (hψ : ψ z K') (js sg : List Nat) {n : Nat} {dfs : List DF} {sl : Slots} {td : List SI} {hp hp' : Hp} {nx : Nat} {cs ds : List Prop} {v : SV} (htd : td = [] ∨ ∃ k, td = .code .ret :: k)
    (hm : Marks B' hp js dfs) (hd : dropF js hp some = some hp') (hl : sg.length = (out z).nx) (hv : resV P f sl hp' ro = some (cs, v)) (hc : conj cs)
    (hk : retC nx sg np ro hp' (out z) v = some ds) (hds : conj ds) : Run P ro B' f (HEndX B.pin B K M ro ψ out) ⟨⟨⟨f, none, dfs⟩, n, sl, td⟩, [], hp, nx⟩ := by
  unfold retC at hk
  cases hb : (dist nx sg (hkeys (out z).hp) && idTo nx sg np) with
  | false => rw [hb] at hk; cases hk
  | true =>
  rw [hb] at hk; simp only [cond_true] at hk
  simp only [Bool.and_eq_true] at hb
  split at hk <;> first | exact (none_ne hk).elim | skip
  rename_i a b c e1 e2 e3
  injection hk with hk; subst hk
  obtain ⟨h1, h2⟩ := conj_append hds
  obtain ⟨h2, h3⟩ := conj_append h2
  refine run_retM js htd hm hd hv hc (fun β w u hs hu => ?_) (hM1.kd.trans hpin1.k)
  obtain ⟨z', β', u', g1, g2, g3, g4, g5⟩ := hend_of (ψ := fun y => y = z) hpin1 z rfl sg hl e1 e2 hb.1 e3 hb.2 h1 h2 h3 β w u (hs.less hM1) hu
  subst g1
  exact ⟨z', β', u', B1, K', hψ, Env.le_trans hF1.pin g2, g3, g4, hF1, g5⟩
end
section
variable {P : Program} {ro : Hp} {B : Base} {f : FuncId} {R : Ending → World → Prop}
/-- A call by a contract that leaves blocks behind. -/
theorem run_callX {K : Kn} {M : Nat → Prop} {g : Nat} {xs : List SV} {hpc roc : Hp} {nxc : Nat} {ψ : ι → Kn → Prop} {out : ι → Out} (hHC : HCX P K M g xs hpc roc nxc ψ out) (hP : Named P) (hB : B.ok) (hK : ∀ b o, K b = some o → B.D b = some o) (hM : ∀ b, M b → K b ≠ none) (hro : ro = [] ∨ ∀ b, ¬ M b) (sg : List Nat)
    {fn : FId} {n : Nat} {sl : Slots} {ops : Array Oper} {i : Nat} {o : Oper} {cur : List Oper} {tl : Option (List Nat)} {k : List SI} {rest : List SFr} {hp : Hp} {nx : Nat} {cs0 cs1 : List Prop} {gf : Func} {gb : Code} {as : List SV}
    (hgd : guardIn ops sl o = some .run) (hcal : callee P sl o.op = some (cs0, g, gf, gb, as)) (hl : sg.length = nxc) (hk : callC nx sg nxc xs as hpc roc hp ro = some cs1) (hc0 : conj cs0) (hc1 : conj cs1)
    (h : ∀ z B' K', ψ z K' → Fz B K M B' K' → B'.pin = B.pin → nxc ≤ (out z).nx ∧ ∃ sl' hp' nx', put o.dst (ren nx sg (out z).r) n sl = some sl' ∧ callH nx sg ((hkeys hpc).map (sig nx sg)) (out z).hp hp = some hp' ∧ natF (nx + ((out z).nx - nxc)) some = some nx' ∧
      Run P ro B' f R ⟨⟨fn, n, sl', .reg ops (i + 1) cur tl :: k⟩, rest, hp', nx'⟩) :
    Run P ro B f R ⟨⟨fn, n, sl, .reg ops i (o :: cur) tl :: k⟩, rest, hp, nx⟩ := by
  unfold callC at hk
  cases hb : (cover (hkeys hpc ++ hkeys roc) nxc && allLt nx sg && dist nx sg (hkeys hpc ++ hkeys roc)) with
  | false => rw [hb] at hk; cases hk
  | true =>
  rw [hb] at hk; simp only [cond_true] at hk
  simp only [Bool.and_eq_true] at hb
  split at hk <;> first | exact (none_ne hk).elim | skip
  rename_i a b c hargs e2 e3
  injection hk with hk; subst hk
  obtain ⟨h1, h2⟩ := conj_append hc1
  obtain ⟨h2, h3⟩ := conj_append h2
  subst hl
  intro β w fr frs cs hf hfs hs hcs
  have hrok := hf.ok _ (List.mem_cons_self ..)
  obtain ⟨ho, hok', hit⟩ := reg_ok hrok
  have hlt' : ∀ t v, look t sl = some v → t < fr.tmps.size := by rw [hf.size]; exact hf.lt
  have hw := guard_rel hgd hf.size hf.slot hlt'
  have hrho : Rho β sl (Act.eval ⟨fr.tmps, fr.defers⟩) := ⟨hf.slot, fun _ => rfl, fun _ => rfl⟩
  obtain ⟨hfn, hbd, vs, hvl, hrun⟩ := callee_run (w := w) hP hrho hcal (all_conj hc0)
  obtain ⟨B1, hB1, hK1, hs1, hback⟩ := hs.calledX hB hK hM hro hb.1.2 hb.1.1 e2 e3 hb.2 (all_conj h2) (all_conj h3)
  rw [renFL_eq] at hargs
  have hxs : RelL (β.via nx sg) xs vs := (renL_rel _ _).1 (eqL_less _ _ _ hargs (all_conj h1) β vs hvl)
  have hcall := hHC B1 (β.via nx sg) w vs hB1 hK1 hxs hs1
  have hst := op_enter (P := P) (b := fr) (a := ⟨fr.tmps, fr.defers⟩) (k := k.map SI.item) (cs := frs ++ cs) (w := w) (ops := ops) (i := i) (rest := List.range' (i + 1) cur.length ++ tl.getD []) ho hw hrun
  obtain ⟨e, w', fr', ⟨z, β2, u, B1', K', hz, hle2, rfl, hu, hF1, hs2⟩, hco, _, hlv⟩ := hcall (fr.atR ⟨fr.tmps, fr.defers⟩ (.inRegion ops (i :: (List.range' (i + 1) cur.length ++ tl.getD [])) :: k.map SI.item) :: (frs ++ cs))
  -- the number of names used is told by any base: take the one that comes
  have hnz : sg.length ≤ (out z).nx := by
    obtain ⟨β'', B2, _, _, gF, gp, _⟩ : ∃ (β'' : Env) (B2 : Base), True ∧ True ∧ Fz B K M B2 K' ∧ B2.pin = B.pin ∧ True := by
      obtain ⟨β'', B2, g1, g2, g3, g4, g5⟩ := hback β2 w' [] (max sg.length (out z).nx) B1' K' hle2 hF1 ⟨⟨fun _ _ h => (none_ne h).elim, fun _ _ _ _ h => (none_ne h).elim, hs2.read, hs2.old, hs2.os, hs2.tape, hs2.output, hs2.size, hs2.pin⟩, fun i hi => hs2.fresh i (by omega)⟩ (Nat.le_max_left ..)
      exact ⟨β'', B2, trivial, trivial, g3, g4, trivial⟩
    exact (h z B2 K' hz gF gp).1
  obtain ⟨β'', B2, g1, g2, g3, g4, g5⟩ := hback β2 w' _ _ B1' K' hle2 hF1 hs2 hnz
  obtain ⟨_, sl', hp', nx', q1, q2, q3, hr⟩ := h z B2 K' hz g3 g4
  have q2 := callH_eq q2
  rw [natF_eq] at q3
  injection q3 with q3
  subst q2 q3
  obtain ⟨p1, p2, p3⟩ := put_spec (β := β'') q1 hf.size (fun t v e => Rel.mono g1 _ _ (hf.slot t v e)) hf.lt (g2 _ _ hu)
  obtain ⟨e', w2, fr2, hR, hc, r⟩ := hr β'' w' (fr.atR ⟨(Act.put ⟨fr.tmps, fr.defers⟩ o.dst u).tmps, fr.defers⟩ ((SI.reg ops (i + 1) cur tl :: k).map SI.item)) frs cs (FrRel.of hf.fn hf.rnd hf.kind (hf.defers.mono g1) p1 p3 p2 (by
    intro x hx
    cases hx with
    | head => exact hok'
    | tail _ hm => exact hf.ok x (List.mem_cons_of_mem _ hm))) (hfs.mono g1) g5 (by rw [g3.kd]; exact hcs)
  rw [g3.kd] at hc r
  refine ⟨e', w2, fr2, hR, .of_steps ?_ hc, r⟩
  have := hf.at
  rw [this, ← put_eq]
  simp only [List.map_cons, hit]
  refine (Steps.one hst).trans (Steps.trans hco (.one ?_))
  have hfin : (fr.atR ⟨fr.tmps, fr.defers⟩ (.inRegion ops (i :: (List.range' (i + 1) cur.length ++ tl.getD [])) :: k.map SI.item)).finish u = fr.atR (Act.put ⟨fr.tmps, fr.defers⟩ o.dst u) (.inRegion ops (List.range' (i + 1) cur.length ++ tl.getD []) :: k.map SI.item) := by rw [Frame.finish_atR, ho]; rfl
  have hsl := step_leave_returned (c := fr.atR ⟨fr.tmps, fr.defers⟩ (.inRegion ops (i :: (List.range' (i + 1) cur.length ++ tl.getD [])) :: k.map SI.item)) (cs := frs ++ cs) hlv
  rw [hfin] at hsl
  exact hsl
end
end
end Sx
end
section
namespace Sx
open Go
def keyIs (q : IntKind) (a : Int) (x : MapEntry) : Bool := match x.key with
  | .int q' b => keq q' q && decide (b = a)
  | _ => false
def vIntOf (v : Value) : Int := match v with
  | .int _ c => c
  | _ => 0
def hasE (q : IntKind) (es : Array MapEntry) (a : Int) : Bool := es.toList.any (keyIs q a)
def lkE (q : IntKind) (es : Array MapEntry) (a : Int) : Int := match es.toList.find? (keyIs q a) with
  | some x => vIntOf x.val
  | none => 0
def entA (es : Array MapEntry) (clock : Nat) (q r : IntKind) (a : Int) : Array MapEntry := bif hasE q es a then es else es.push ⟨.int q a, .int r 0, clock⟩
def entC (es : Array MapEntry) (clock : Nat) (q : IntKind) (a : Int) : Nat := bif hasE q es a then clock else clock + 1
def entS (es : Array MapEntry) (clock : Nat) (q : IntKind) (a : Int) : Nat := match es.toList.find? (keyIs q a) with
  | some x => x.born
  | none => clock
def stoI (es : Array MapEntry) (n : Int) : Option Nat := es.findIdx? fun e => (e.born : Int) == n
def stoA (es : Array MapEntry) (n : Int) (v : Value) : Array MapEntry := match stoI es n with
  | some i => es.modify i fun e => { e with val := v }
  | none => es
/-- Integers at integers. -/
def WFm (q r : IntKind) (es : Array MapEntry) (clock : Nat) : Prop := MapKept.Stamped es clock ∧ ∀ x ∈ es.toList, ∃ a c, x.key = .int q a ∧ x.val = .int r c
theorem keyIs_iff {q : IntKind} {a : Int} {x : MapEntry} : keyIs q a x = true ↔ x.key = .int q a := by
  unfold keyIs
  constructor
  · intro h
    split at h
    · rename_i q' b e
      rw [Bool.and_eq_true, decide_eq_true_iff] at h
      rw [e, keq_spec h.1, h.2]
    · cases h
  · intro h
    rw [h]
    simp only [decide_true, Bool.and_true]
    cases q <;> rfl
theorem hasE_iff {q : IntKind} {es : Array MapEntry} {a : Int} : hasE q es a = true ↔ ∃ x ∈ es.toList, x.key = .int q a := by
  unfold hasE
  rw [List.any_eq_true]
  exact ⟨fun ⟨x, h1, h2⟩ => ⟨x, h1, keyIs_iff.1 h2⟩, fun ⟨x, h1, h2⟩ => ⟨x, h1, keyIs_iff.2 h2⟩⟩
theorem find_key {q : IntKind} {es : Array MapEntry} {clock : Nat} (h : MapKept.Stamped es clock) {a : Int} {x : MapEntry} (hx : x ∈ es.toList) (hk : x.key = .int q a) : es.toList.find? (keyIs q a) = some x := by
  cases hf : es.toList.find? (keyIs q a) with
  | none =>
    have := List.find?_eq_none.1 hf x hx
    exact absurd (keyIs_iff.2 hk) this
  | some y =>
    have h1 := keyIs_iff.1 (List.find?_some hf)
    have h2 := List.mem_of_find?_eq_some hf
    obtain ⟨_, _, hp⟩ := (MapKept.stamped_iff _ _).1 h
    obtain ⟨i, hi, rfl⟩ := List.mem_iff_getElem.1 hx
    obtain ⟨j, hj, rfl⟩ := List.mem_iff_getElem.1 h2
    rcases Nat.lt_trichotomy i j with g | g | g
    · exact absurd (hk.trans h1.symm) (List.pairwise_iff_getElem.1 hp i j hi hj g)
    · subst g; rfl
    · exact absurd (h1.trans hk.symm) (List.pairwise_iff_getElem.1 hp j i hj hi g)
theorem lkE_of {q r : IntKind} {es : Array MapEntry} {clock : Nat} (h : MapKept.Stamped es clock) {a c : Int} {x : MapEntry} (hx : x ∈ es.toList) (hk : x.key = .int q a) (hv : x.val = .int r c) : lkE q es a = c := by
  unfold lkE
  rw [find_key h hx hk]
  simp [hv, vIntOf]
theorem WFm.rel {q r : IntKind} {es : Array MapEntry} {clock : Nat} (h : WFm q r es clock) (β : Env) : MRel β q (hasE q es) (.ints r (lkE q es)) es clock := by
  refine ⟨h.1, fun x hx => ?_, fun a ha => hasE_iff.1 ha⟩
  obtain ⟨a, c, h1, h2⟩ := h.2 x hx
  exact ⟨a, h1, hasE_iff.2 ⟨x, hx, h1⟩, by show x.val = .int r (lkE q es a); rw [lkE_of h.1 hx h1 h2, h2]⟩
theorem MRel.wf {β : Env} {q r : IntKind} {hh : Int → Bool} {v : Int → Int} {es : Array MapEntry} {clock : Nat} (h : MRel β q hh (.ints r v) es clock) : WFm q r es clock ∧ (∀ a, hasE q es a = hh a) ∧ ∀ a, hh a = true → lkE q es a = v a := by
  have hv : ∀ x ∈ es.toList, ∃ a, x.key = .int q a ∧ hh a = true ∧ x.val = .int r (v a) := fun x hx => h.ent x hx
  refine ⟨⟨h.st, fun x hx => ?_⟩, fun a => ?_, fun a ha => ?_⟩
  · obtain ⟨a, h1, _, h3⟩ := hv x hx
    exact ⟨a, _, h1, h3⟩
  · rw [Bool.eq_iff_iff, hasE_iff]
    constructor
    · rintro ⟨x, hx, hk⟩
      obtain ⟨a', h1, h2, _⟩ := hv x hx
      rw [hk] at h1; injection h1 with _ h1; rw [h1]; exact h2
    · exact h.has a
  · obtain ⟨x, hx, hk⟩ := h.has a ha
    obtain ⟨a', h1, _, h3⟩ := hv x hx
    rw [hk] at h1; injection h1 with _ h1; subst h1
    exact lkE_of h.st hx hk h3
theorem hasE_false {q : IntKind} {es : Array MapEntry} {a : Int} (h : hasE q es a = false) : ∀ x ∈ es.toList, x.key ≠ .int q a := fun x hx hk => by
  have := hasE_iff.2 ⟨x, hx, hk⟩
  rw [h] at this; cases this
theorem WFm.ent {q r : IntKind} {es : Array MapEntry} {clock : Nat} (h : WFm q r es clock) (a : Int) : WFm q r (entA es clock q r a) (entC es clock q a) := by
  unfold entA entC
  cases ha : hasE q es a with
  | true => exact h
  | false =>
    refine ⟨MapKept.stamped_push h.1 (hasE_false ha), fun x hx => ?_⟩
    simp only [cond_false, Array.toList_push, List.mem_append, List.mem_singleton] at hx
    rcases hx with hx | rfl
    · exact h.2 x hx
    · exact ⟨a, 0, rfl, rfl⟩
def meArg (P : Program) (sl : Slots) (op : Op) : Option (List Prop × Nat × IntKind × Int × IntKind) :=
  match op with
  | .mapEntry t m k => match evs sl m, evs sl k, mapIn P t with
    | some (cs, .mp i), some (ds, .int q a), some (q', et, some r) => match zeroIn P et with
      | some (.int r' 0) => bif keq q q' && keq r r' then some (cs ++ ds, i, q', a, r) else none
      | _ => none
    | _, _, _ => none
  | _ => none
def esArg (sl : Slots) (op : Op) : Option (List Prop × Nat × Int × IntKind × Int) :=
  match op with
  | .entryStore _ m s x => match evs sl m, evs sl s, evs sl x with
    | some (cs, .mp i), some (ds, .int _ n), some (es, .int r c) => some (cs ++ ds ++ es, i, n, r, c)
    | _, _, _ => none
  | _ => none
def meO (q r : IntKind) (a : Int) : SO → Option (SO × SV)
  | .mape q' _ (.ints r' _) es clock => bif keq q q' && keq r r' then some (.mape q (hasE q (entA es clock q r a)) (.ints r (lkE q (entA es clock q r a))) (entA es clock q r a) (entC es clock q a), .tup [.int r (lkE q es a), .int .i64 (entS es clock q a)]) else none
  | _ => none
def esO (n : Int) (r : IntKind) (c : Int) : SO → Option (Prop × SO)
  | .mape q _ (.ints r' _) es clock => bif keq r r' then some ((stoI es n).isSome = true, .mape q (hasE q (stoA es n (.int r c))) (.ints r (lkE q (stoA es n (.int r c)))) (stoA es n (.int r c)) clock) else none
  | _ => none
def isEnt : Op → Bool
  | .mapEntry .. => true
  | .entryStore .. => true
  | _ => false
def dopQ (P : Program) (M : Mode) (ro : Hp) (ops : Array Oper) (idn : Nat) (o : Oper) (sl : Slots) (hp : Hp) : Option (List Prop × DR) :=
  match isEnt o.op with
  | false => dop P M ro ops idn o sl hp
  | true => match thin (opSlots ops o) sl with
    | none => none
    | some slv => match guardIn ops slv o with
      | some .run => match meArg P slv o.op with
        | some (cs, i, q, a, r) => match hget i hp with
          | some so => match meO q r a so with
            | some (so', v) => some (cs, ⟨opSlots ops o, o.dst, [i], [(i, so')], [], v⟩)
            | none => none
          | none => none
        | none => match esArg slv o.op with
          | some (cs, i, n, r, c) => match hget i hp with
            | some so => match esO n r c so with
              | some (p, so') => some (p :: cs, ⟨opSlots ops o, o.dst, [i], [(i, so')], [], .und⟩)
              | none => none
            | none => none
          | none => none
      | _ => none
section
variable {P : Program} {M : Mode} {ro : Hp} {ops : Array Oper} {T : List (List Nat)} {n nx K m b : Nat} {Sl : Nat → Slots} {Hs : Nat → Hp} {dr : Nat → DR} {B : Base}
variable {f : FuncId} {R : Ending → World → Prop}
end
end Sx
end
section
namespace Sx
open Go Go.ChangeShapes Go.WideShapes
section
variable {H : Type} {enc : TypeId × Value → H} {P : Program} {w : World}
/-- What is known at the start: all that lies there. -/
abbrev K0 (w : World) : Kn := fun b => w.heap[b]?
theorem froz_of {t e : TypeId} {sz fuel : Nat} {v : Value} {x : DataW H × List MemPlace} (ht : P.underlying t = some (.slice e)) (hsz : P.cellsOf e = sz) (hp : 0 < sz)
    (h : DataW.trod enc P w 0 (fun _ => true) true fuel t [v] = some x) :
    ∃ (n : Nat) (C : Nat → List Value), (∀ i, i < n → ∃ m y, DataW.trod enc P w 0 (fun _ => true) true m e (C i) = some y) ∧
      ∀ f : Nat → Nat → SV, (∀ i k, i < n → k < sz → ∃ u, (C i)[k]? = some u ∧ Rel Env.nil (f i k) u) → Froz (K0 w) v n sz f := by
  obtain ⟨off, n, C, β, hC, hr, hs, hcell⟩ := slice_argC ht hsz hp h
  obtain ⟨base, room, e1, e2, _, _, e5⟩ := hr
  refine ⟨n, C, hC, fun f hf => ⟨base, room, e1, e2, fun h0 => ?_⟩⟩
  obtain ⟨g1, b, g2, g3, _⟩ := e5 h0
  obtain ⟨b', c, tt, fz, q1, q2, _⟩ := hcell 0 h0
  rw [g2] at q1; injection q1 with q1; subst q1
  refine ⟨g1, b, off, c, tt, fz, by rw [g3]; simp, q2, fun i k hi hk => ?_⟩
  obtain ⟨b2, c2, tt2, fz2, r1, r2, r3⟩ := hcell i hi
  rw [g2] at r1; injection r1 with r1; subst r1
  rw [q2] at r2
  simp only [Option.some.injEq, Obj.cells.injEq] at r2
  obtain ⟨rfl, _, _⟩ := r2
  obtain ⟨u, hu, hr⟩ := hf i k hi hk
  exact ⟨u, (r3 k hk).trans hu, hr⟩
theorem slice_one {t e : TypeId} {fuel : Nat} {cs : List Value} {x : DataW H × List MemPlace} (ht : P.underlying t = some (.slice e)) (h : DataW.trod enc P w 0 (fun _ => true) true fuel t cs = some x) : ∃ v, cs = [v] ∧ v.oneCell' = true := by
  cases fuel with
  | zero => simp [DataW.trod] at h
  | succ n =>
    rcases cs with _ | ⟨v, _ | ⟨u, r⟩⟩
    · simp [DataW.trod, ht] at h
    · refine ⟨v, rfl, ?_⟩
      cases v <;> first | rfl | (simp [DataW.trod, ht] at h; done)
    · simp [DataW.trod, ht] at h
end
/-- A contract that leaves nothing behind, at the law's own call. -/
theorem hendX_below {w : World} {β : Env} {ro : Hp} {e : Ending} {w' : World} {n : Nat} {ψ : Unit → Kn → Prop} (h : HEndX β (Base.all w) (K0 w) M0 ro ψ (fun _ => ⟨.tt, [], n⟩) e w') : e = .returned (.bool true) ∧ RowKit.Below w.heap.size w w' := by
  obtain ⟨z, β', u, B', K', _, _, rfl, hu, hF, hs⟩ := h
  have hu : u = .bool true := hu
  subst hu
  have hs0 : Sat β' [] [] B' n w' := ⟨⟨hs.own, hs.apart, fun _ _ h => (none_ne h).elim, hs.old, hs.os, hs.tape, hs.output, hs.size, hs.pin⟩, hs.fresh⟩
  exact ⟨rfl, (hF.sat hs0).below_all⟩
end Sx
end
section
namespace Sx
open Go Go.ChangeShapes Go.WideShapes
theorem sat_open {K : Kn} {B : Base} (hK : ∀ b o, K b = some o → B.D b = some o) {v : Value} {m sz : Nat} {g : Nat → Nat → SV} (hF : Froz K v m sz g) (hsz : 0 < sz) {β : Env} {hp ro : Hp} {nx : Nat} {w : World} (hs : Sat β hp ro B nx w) :
    ∃ off, ∃ β' : Env, β.le β' ∧ Rel β' (.sq nx off 0 sz m .no) v ∧ Sat β' hp ((nx, .row off m m sz g anyTy) :: ro) B (nx + 1) w := by
  obtain ⟨base, room, e1, e2, e3⟩ := hF
  rcases Nat.eq_zero_or_pos m with h0 | h0
  · subst h0
    refine ⟨0, β, Env.le_refl _, ⟨base, room, e1, e2, fun h => (by cases h), fun h => (by cases h), fun h => absurd h (Nat.lt_irrefl _)⟩, ⟨⟨hs.own, hs.apart, fun i s hi hl => ?_, hs.old, hs.os, hs.tape, hs.output, hs.size, hs.pin⟩, fun i hi => hs.fresh i (by show nx ≤ i; omega)⟩⟩
    simp only [hget] at hi
    cases hb : Nat.beq i nx with
    | true => rw [hb] at hi; simp only [cond_true, Option.some.injEq] at hi; subst hi; exact absurd hl (Nat.lt_irrefl 0)
    | false => rw [hb] at hi; exact hs.read i s hi hl
  · obtain ⟨h4, b, o, c, tt, fz, h5, h6, h7⟩ := e3 h0
    have hfr := hs.fresh nx (Nat.le_refl _)
    have hle := Env.le_add (b := b) (r := 0) hfr
    have hne : ∀ i b', β i = some b' → i ≠ nx := by
      intro i b' h e; subst e; rw [hfr] at h; cases h
    refine ⟨o, β.add nx b 0, hle, ⟨base, room, e1, e2, fun h => (by cases h), fun h => (by cases h), fun _ => ⟨h4, b, Env.add_same _ _ _ _, by rw [h5]; simp, fun h => (by cases h)⟩⟩, ⟨⟨fun i s hi hl => ?_, fun i j s t hi hj hl ht hij => ?_, fun i s hi hl => ?_, hs.old, hs.os, hs.tape, hs.output, hs.size, Env.le_trans hs.pin hle⟩, fun i hi => ?_⟩⟩
    · obtain ⟨b', o', h1, h2, h3, h4, h5⟩ := hs.own i s hi hl
      have hn := hne i b' h1
      exact ⟨b', o', (Env.add_other _ _ _ hn).trans h1, h2, h3, ORel.mono hle _ _ h4, by rw [Env.add_room_other _ _ _ hn]; exact h5⟩
    · obtain ⟨b1, o1, h1, _⟩ := hs.own i s hi hl
      obtain ⟨b2, o2, h2, _⟩ := hs.own j t hj ht
      rw [Env.add_other _ _ _ (hne i b1 h1), Env.add_other _ _ _ (hne j b2 h2)]
      exact hs.apart i j s t hi hj hl ht hij
    · simp only [hget] at hi
      cases hb : Nat.beq i nx with
      | true =>
        rw [hb] at hi; simp only [cond_true, Option.some.injEq] at hi; subst hi
        have := beq_nat hb; subst this
        refine ⟨b, _, Env.add_same _ _ _ _, hK _ _ h6, c, fz, tt, .inl rfl, rfl, Nat.le_refl _, ?_, fun i k hi hk => ?_⟩
        · obtain ⟨u, hu, _⟩ := h7 (m - 1) (sz - 1) (by omega) (by omega)
          have := (Array.getElem?_eq_some_iff.1 hu).1
          have h8 : (m - 1) * sz + sz = m * sz := by
            obtain ⟨q, rfl⟩ : ∃ q, m = q + 1 := ⟨m - 1, by omega⟩
            simp [Nat.succ_mul]
          omega
        · obtain ⟨u, hu, hr⟩ := h7 i k hi hk
          exact ⟨u, hu, Rel.mono (Env.nil_le _) _ _ hr⟩
      | false =>
        rw [hb] at hi
        obtain ⟨b', o', h1, h2, h3⟩ := hs.read i s hi hl
        exact ⟨b', o', (Env.add_other _ _ _ (hne i b' h1)).trans h1, h2, ORel.mono hle _ _ h3⟩
    · rw [Env.add_other _ _ _ (by omega)]; exact hs.fresh i (by show nx ≤ i; omega)
end Sx
end
section
namespace Sx
open Go
section
variable {P : Program} {ro : Hp} {B : Base} {f : FuncId} {R : Ending → World → Prop}
/-- A row whose elements from s to s + m are those of g from s' on. -/
def cpyF (f : Nat → Nat → SV) (s m : Nat) (g : Nat → Nat → SV) (s' : Nat) : Nat → Nat → SV := fun i k => if s ≤ i ∧ i < s + m then g (s' + (i - s)) k else f i k
structure CpyA where
  i : Nat
  off : Nat
  s : Nat
  m : Nat
  j : Nat
  off2 : Nat
  s2 : Nat
  m2 : Nat
def cpyArg (P : Program) (sl : Slots) : Op → Option (List Prop × CpyA)
  | .call { callee := .builtin .copy, args := as, argTypes := ts } => match ts.toList, evList sl as.toList with
    | [t, _], some (cs, [.sq i off s 1 m _, .sq j off2 s2 1 m2 _]) => match P.underlying t with
      | some (.slice e) => match sizeIn P e with
        | some 1 => some (cs, ⟨i, off, s, m, j, off2, s2, m2⟩)
        | _ => none
      | _ => none
    | _, _ => none
  | _ => none
end
end Sx
end
section
namespace Sx
open Go
section
variable {P : Program} {ro : Hp} {B : Base} {f : FuncId} {R : Ending → World → Prop}
/-- Whether a slice is nil. -/
def isNilS : Value → Bool
  | .slice none _ _ => true
  | _ => false
/-- A slice known for good, against nil. -/
theorem run_vnil {fn : FId} {n : Nat} {sl sl' : Slots} {ops : Array Oper} {i0 : Nat} {o : Oper} {cur : List Oper} {tl : Option (List Nat)} {k : List SI} {rest : List SFr} {hp : Hp} {nx : Nat} {t a t' : TypeId} {x : Operand} {cs0 : List Prop} {base : Option Addr} {len room : Nat}
    (hu : P.underlying t = some (.slice a)) (ho : o.op = .binOp .eql t x (.const (.slice none 0 0)) t') (hgd : guardIn ops sl o = some .run) (hx : evs sl x = some (cs0, .val (.slice base len room))) (hc0 : conj cs0) (hb : base = none → len = 0 ∧ room = 0)
    (hput : put o.dst (.sb base.isNone) n sl = some sl') (hr : Run P ro B f R ⟨⟨fn, n, sl', .reg ops (i0 + 1) cur tl :: k⟩, rest, hp, nx⟩) :
    Run P ro B f R ⟨⟨fn, n, sl, .reg ops i0 (o :: cur) tl :: k⟩, rest, hp, nx⟩ := by
  refine run_op hr hput ?_
  intro β w tmps b k' fs r dd hn hsl hlt hs hk hop
  have hw := guard_rel hgd hn hsl hlt
  have hrho : Rho β sl (Act.eval ⟨tmps, dd⟩) := ⟨hsl, fun _ => rfl, fun _ => rfl⟩
  have hv : Act.eval ⟨tmps, dd⟩ x = .slice base len room := (evs_rel hrho hx (all_conj hc0)).1
  refine ⟨β, w, .bool base.isNone, Env.le_refl _, hs, rfl, .one (op_value hop hw ?_)⟩
  have key : (Op.equal t (.slice base len room) (.slice none 0 0)).run P w = .ok base.isNone w := by
    cases base with
    | none => obtain ⟨rfl, rfl⟩ := hb rfl; exact eqSl1 w 9999 hu
    | some ad => exact eqSl2 w 9999 ad len room hu
  obtain ⟨u, e1, e2⟩ := eqVal (β := β) (b := base.isNone) (op := .eql) (s := .sb base.isNone) (by cases base <;> rfl) (t := t) x (.const (.slice none 0 0)) (x := .slice base len room) (y := .slice none 0 0) (fun op' => by cases op' <;> rfl) key (by simp [eqGuard])
  have e2 : u = .bool base.isNone := e2
  subst e2
  simp only [Sem.run_bind] at e1
  simp only [execOp, ho, Sem.run_bind, hv]
  rw [show Act.eval ⟨tmps, dd⟩ (.const (.slice none 0 0)) = .slice none 0 0 from rfl, e1]
  rfl
def mclrArg (P : Program) (sl : Slots) : Op → Option (List Prop × Nat)
  | .call { callee := .builtin .clear, args := as, argTypes := ts } => match ts.toList, evList sl as.toList with
    | [t], some (cs, [.mp i]) => match P.underlying t with
      | some (.map _ _) => some (cs, i)
      | _ => none
    | _, _ => none
  | _ => none
/-- A loop that leaves blocks behind: what is known grows. -/
theorem run_invX {ι : Type} {B0 : Base} {K0 K : Kn} {M : Nat → Prop} {np : Nat} (hF : Fz B0 K0 M B K) (hpin : PinTo B np) (I : ι → Kn → Prop) (μ : ι → Nat) (slI : ι → Slots) (rsI : ι → List SFr) (hpI : ι → Hp) {fn : FId} {n : Nat} {td : List SI} {nx : Nat} (x0 : ι) (h0 : I x0 K)
    (step : ∀ (x : ι) (B' : Base) (K' : Kn), Fz B0 K0 M B' K' → PinTo B' np → I x K' → (∀ (y : ι) (B'' : Base) (K'' : Kn), Fz B0 K0 M B'' K'' → PinTo B'' np → I y K'' → μ y < μ x → Run P ro B'' f R ⟨⟨fn, n, slI y, td⟩, rsI y, hpI y, nx⟩) → Run P ro B' f R ⟨⟨fn, n, slI x, td⟩, rsI x, hpI x, nx⟩) :
    Run P ro B f R ⟨⟨fn, n, slI x0, td⟩, rsI x0, hpI x0, nx⟩ := by
  have main : ∀ (N : Nat) (x : ι) (B' : Base) (K' : Kn), μ x < N → Fz B0 K0 M B' K' → PinTo B' np → I x K' → Run P ro B' f R ⟨⟨fn, n, slI x, td⟩, rsI x, hpI x, nx⟩ := by
    intro N
    induction N with
    | zero => intro x B' K' h; exact absurd h (Nat.not_lt_zero _)
    | succ N ih => intro x B' K' h hF' hp' hI; exact step x B' K' hF' hp' hI fun y B'' K'' g1 g2 g3 g4 => ih y B'' K'' (by omega) g1 g2 g3
  exact main (μ x0 + 1) x0 B K (Nat.lt_succ_self _) hF hpin h0
end
end Sx
end
section
namespace Sx
open Go
section
variable {P : Program} {ro : Hp} {B : Base} {f : FuncId} {R : Ending → World → Prop}
/-- A block that is known from here on: what was its row is a value known for good. -/
theorem sat_freeze {K : Kn} (hB : B.ok) (hK : ∀ b o, K b = some o → B.D b = some o) {i off sz m m' cap : Nat} {ap : Ap} {g : Nat → Nat → SV} {ty : TypeId} {hp : Hp} {nx : Nat} {β : Env} {w : World} {u0 : Value}
    (hi : hget i hp = some (.row off m' cap sz g ty)) (hm : m ≤ m') (hcl : ∀ i k, i < m → k < sz → (g i k).closed = true) (hs : Sat β hp ro B nx w) (hu0 : Rel β (.sq i off 0 sz m ap) u0) :
    ∃ (B' : Base) (K' : Kn), Froz K' u0 m sz g ∧ Fz B K M0 B' K' ∧ B'.pin = B.pin ∧ B'.kd = B.kd ∧ Sat β (hdrop' [i] hp) ro B' nx w := by
  obtain ⟨base, room, e1, e2, e3, e4, e5⟩ := hu0
  have own' : ∀ j s, hget j (hdrop' [i] hp) = some s → hget j hp = some s ∧ j ≠ i := by
    intro j s hj
    rw [hdrop_get] at hj
    split at hj
    · cases hj
    · rename_i hn; exact ⟨hj, fun e => hn (by rw [e]; exact List.mem_singleton.2 rfl)⟩
  rcases Nat.eq_zero_or_pos m with h0 | h0
  · subst h0
    refine ⟨B, K, ⟨base, room, e1, e2, fun h => absurd h (Nat.lt_irrefl _)⟩, .refl hB hK, rfl, rfl, ⟨⟨fun j s hj hl => hs.own j s (own' j s hj).1 hl, fun j k s u hj hk => hs.apart j k s u (own' j s hj).1 (own' k u hk).1, hs.read, hs.old, hs.os, hs.tape, hs.output, hs.size, hs.pin⟩, hs.fresh⟩⟩
  · obtain ⟨b, o, h1, h2, h3, h4, h5⟩ := hs.own i _ hi (show 0 < m' by omega)
    obtain ⟨c, fz, tt, q1, q2, q3, q4, q5⟩ := h4
    obtain ⟨g1, b', g2, g3, _⟩ := e5 h0
    rw [h1] at g2; injection g2 with g2; subst g2
    have KB : ∀ x, (if x = b then some o else B.D x) = if x = b then some o else B.D x := fun _ => rfl
    let B' : Base := ⟨fun x => if x = b then some o else B.D x, w, B.pin, B.kd⟩
    let K' : Kn := fun x => if x = b then some o else K x
    have hBb : ∀ x o', B.D x = some o' → x ≠ b := by
      intro x o' hx e; subst e; rw [h2] at hx; cases hx
    have hF : Fz B K M0 B' K' := by
      refine ⟨fun x o' hx => ?_, rfl, Env.le_refl _, hs.os, hs.tape, hs.output, hs.size, fun x o' hx _ => ?_, fun x o' hx => ?_, fun x o' hx _ => ?_, fun x o' hx => ?_⟩
      · by_cases e : x = b
        · subst e; exact (Array.getElem?_eq_some_iff.1 h3).1
        · have hx : B.D x = some o' := by simpa [B', e] using hx
          exact Nat.lt_of_lt_of_le (hB x o' hx) hs.size
      · show (if x = b then some o else B.D x) = some o'
        rw [if_neg (hBb x o' hx)]; exact hx
      · show (if x = b then some o else B.D x) = some o'
        by_cases e : x = b
        · simpa [K', e] using hx
        · rw [if_neg e]; exact hK x o' (by simpa [K', e] using hx)
      · show (if x = b then some o else K x) = some o'
        rw [if_neg (hBb x o' (hK x o' hx))]; exact hx
      · by_cases e : x = b
        · subst e; exact .inr h2
        · left; have : K x = some o' := by simpa [K', e] using hx
          rw [this]; simp
    refine ⟨B', K', ⟨base, room, e1, e2, fun _ => ⟨g1, b, off, c, tt, fz, by rw [g3]; simp, by show (if b = b then some o else K b) = _; rw [if_pos rfl, q2], fun i k hi hk => ?_⟩⟩, hF, rfl, rfl, ?_⟩
    · obtain ⟨u, hu, hr⟩ := q5 i k (by omega) hk
      exact ⟨u, hu, Rel.closed _ _ (hcl i k hi hk) hr⟩
    · refine ⟨⟨fun j s hj hl => ?_, fun j k s u hj hk => hs.apart j k s u (own' j s hj).1 (own' k u hk).1, fun j s hj hl => ?_, fun x o' hx => ?_, rfl, rfl, rfl, Nat.le_refl _, hs.pin⟩, hs.fresh⟩
      · obtain ⟨hj, hne⟩ := own' j s hj
        obtain ⟨bj, oj, j1, j2, j3, j4, j5⟩ := hs.own j s hj hl
        refine ⟨bj, oj, j1, ?_, j3, j4, j5⟩
        show (if bj = b then some o else B.D bj) = none
        rw [if_neg, j2]
        intro e
        exact hs.apart j i s _ hj hi hl (show 0 < m' by omega) hne (by rw [j1, h1, e])
      · obtain ⟨bj, oj, j1, j2, j3⟩ := hs.read j s hj hl
        refine ⟨bj, oj, j1, ?_, j3⟩
        show (if bj = b then some o else B.D bj) = some oj
        rw [if_neg (hBb bj oj j2)]; exact j2
      · have hx : (if x = b then some o else B.D x) = some o' := hx
        by_cases e : x = b
        · subst e; simp at hx; subst hx; exact h3
        · rw [if_neg e] at hx; exact hs.old x o' hx
/-- The slice that a cell of a row holds is written no more. -/
theorem run_freezeC {K : Kn} (hB : B.ok) (hK : ∀ b o, K b = some o → B.D b = some o) (X j k : Nat) {L off sz m m' cap : Nat} {ap : Ap} {g : Nat → Nat → SV} {ty : TypeId} {offX nX capX szX : Nat} {F : Nat → Nat → SV} {tyX : TypeId} {fn : FId} {n : Nat} {sl : Slots} {td : List SI} {rest : List SFr} {hp hp1 : Hp} {hp2 : (Nat → Nat → SV) → Hp} {nx : Nat}
    (hX : hget X hp = some (.row offX nX capX szX F tyX)) (hF : F j k = .sq L off 0 sz m ap) (hj : j < nX) (hk : k < szX) (hi : hget L hp = some (.row off m' cap sz g ty)) (hne : Nat.beq X L = false) (hm : m ≤ m') (hcl : ∀ i k, i < m → k < sz → (g i k).closed = true) (hd : hdrop [L] hp some = some hp1)
    (hset2 : ∀ F', hset X (.row offX nX capX szX F' tyX) hp1 = some (hp2 F'))
    (hr : ∀ v B' K', Froz K' v m sz g → Fz B K M0 B' K' → B'.pin = B.pin → ∀ F', (∀ a b, a < nX → b < szX → F' a b = if a = j ∧ b = k then .val v else F a b) → Run P ro B' f R ⟨⟨fn, n, sl, td⟩, rest, hp2 F', nx⟩) : Run P ro B f R ⟨⟨fn, n, sl, td⟩, rest, hp, nx⟩ := by
  intro β w fr frs cs hf hfs hs hcs
  rw [hdrop_eq] at hd
  injection hd with hd; subst hd
  have hXL : X ≠ L := fun e => by subst e; simp at hne
  obtain ⟨bX, oX, x1, x2, x3, x4, x5⟩ := hs.own X _ hX (show 0 < nX by omega)
  obtain ⟨c, fz, tt, y1, y2, y3, y4, y5⟩ := x4
  obtain ⟨u, hu, hru⟩ := y5 j k hj hk
  rw [hF] at hru
  obtain ⟨B', K', g1, g2, g3, g4, g5⟩ := sat_freeze hB hK hi hm hcl hs hru
  have hone : u.oneCell' = true := by obtain ⟨base, room, e1, _⟩ := hru; rw [e1]; rfl
  let F' : Nat → Nat → SV := fun a b => if a = j ∧ b = k then .val u else F a b
  have hX' : hget X (hdrop' [L] hp) = some (.row offX nX capX szX F tyX) := by
    rw [hdrop_get, if_neg (by simpa using hXL)]; exact hX
  have old : ∀ i s, hget i (hp2 F') = some s → ∃ s0, hget i (hdrop' [L] hp) = some s0 ∧ (s.Live → s0.Live) ∧ ∀ o, (i = X → o = oX) → ORel β s0 o → ORel β s o := by
    intro i s hi'
    rw [hset_get (hset2 F') i] at hi'
    by_cases e : i = X
    · subst e
      rw [if_pos rfl, hX'] at hi'
      simp only [Option.map_some, Option.some.injEq] at hi'
      subst hi'
      refine ⟨_, hX', fun h => h, fun o ho _ => ?_⟩
      rw [ho rfl]
      refine ⟨c, fz, tt, y1, y2, y3, y4, fun a b ha hb => ?_⟩
      obtain ⟨u', hu', hr'⟩ := y5 a b ha hb
      by_cases e2 : a = j ∧ b = k
      · obtain ⟨rfl, rfl⟩ := e2
        refine ⟨u, hu, ?_⟩
        show Rel β (if a = a ∧ b = b then SV.val u else F a b) u
        rw [if_pos ⟨rfl, rfl⟩]
        exact ⟨rfl, hone⟩
      · refine ⟨u', hu', ?_⟩
        show Rel β (if a = j ∧ b = k then SV.val u else F a b) u'
        rw [if_neg e2]; exact hr'
    · rw [if_neg e] at hi'
      exact ⟨s, hi', fun h => h, fun o _ h => h⟩
  have hfin := hr u B' K' g1 g2 g3 F' (fun a b _ _ => rfl) β w fr frs cs hf hfs ?_ (by rw [g4]; exact hcs)
  · rw [g4] at hfin; exact hfin
  refine ⟨⟨fun i s hi' hl => ?_, fun i j s t hi' hj' hl hl' => ?_, g5.read, g5.old, g5.os, g5.tape, g5.output, g5.size, g5.pin⟩, g5.fresh⟩
  · obtain ⟨s0, h1, h2, h3⟩ := old i s hi'
    obtain ⟨b, o, k1, k2, k3, k4, k5⟩ := g5.own i s0 h1 (h2 hl)
    refine ⟨b, o, k1, k2, k3, h3 o (fun e => ?_) k4, k5⟩
    subst e
    rw [x1] at k1; injection k1 with k1; subst k1
    rw [x3] at k3; injection k3 with k3; exact k3.symm
  · obtain ⟨s0, h1, h2, _⟩ := old i s hi'
    obtain ⟨t0, h1', h2', _⟩ := old j t hj'
    exact g5.apart i j s0 t0 h1 h1' (h2 hl) (h2' hl')
end
section
variable {ι : Type} {P : Program} {ro : Hp} {B B' : Base} {f : FuncId} {K K' : Kn} {M : Nat → Prop} {ψ : ι → Kn → Prop} {out : ι → Out}
end
end Sx
end
