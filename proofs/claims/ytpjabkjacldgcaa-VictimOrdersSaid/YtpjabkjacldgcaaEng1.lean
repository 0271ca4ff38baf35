/- A symbolic machine over the model's own code, and what it means for it to follow the model's machine. Definitions only; no condition. -/
import Derived.Calls
import Derived.AtR
import Derived.WalkKit
namespace Sx
open Go

/-- Whether a slice may be appended to: not; it owns its block; it has no room beyond its length. -/
inductive Ap where
  | no
  | own
  | full
/-- A symbolic value. Numbers and truths are Lean's own terms; a pointer names a known block by its place in a list; a slice's last number is a capacity that it has at least. -/
inductive SV where
  | int (k : IntKind) (n : Int)
  | tt
  | ff
  | sb (b : Bool)
  | cnd (g : Bool) (v : SV)
  | ptr (i off : Nat)
  | ep (i off e sz k : Nat)
  | nil
  | sl (i off s sz len cap : Nat)
  | nilsl
  | sq (i off s sz len : Nat) (ap : Ap)
  | mp (i : Nat)
  | nilmp
  | agg (vs : List SV)
  | tup (vs : List SV)
  | clo (fn : Fn) (fst caps : List SV)
  | nilf
  | ifc (t : TypeId) (v : SV)
  | nilif
  | str (s : ByteArray)
  | und

/-- Where the known blocks lie, and how many cells each has at least. -/
structure Env where
  f : Nat → Option Nat
  room : Nat → Nat
instance : CoeFun Env fun _ => Nat → Option Nat := ⟨Env.f⟩
structure Env.le (β β' : Env) : Prop where
  f : ∀ i b, β i = some b → β' i = some b
  r : ∀ i b, β i = some b → β'.room i = β.room i
instance {β β' : Env} : CoeFun (β.le β') fun _ => ∀ i b, β i = some b → β' i = some b := ⟨Env.le.f⟩
def Env.nil : Env := ⟨fun _ => none, fun _ => 0⟩
/-- One name more. -/
def Env.add (β : Env) (i b r : Nat) : Env := ⟨fun j => if j = i then some b else β j, fun j => if j = i then r else β.room j⟩
theorem Env.nil_le (β : Env) : Env.nil.le β := ⟨fun _ _ h => (by cases h), fun _ _ h => (by cases h)⟩
theorem Env.le_refl (β : Env) : β.le β := ⟨fun _ _ h => h, fun _ _ _ => rfl⟩
theorem Env.le_trans {β β' β'' : Env} (h : β.le β') (g : β'.le β'') : β.le β'' := ⟨fun i b e => g i b (h i b e), fun i b e => (g.r i b (h i b e)).trans (h.r i b e)⟩
theorem Env.le_add {β : Env} {i b r : Nat} (h : β i = none) : β.le (β.add i b r) := by
  refine ⟨fun j c hj => ?_, fun j c hj => ?_⟩ <;>
  · have : j ≠ i := by intro e; subst e; rw [h] at hj; cases hj
    simp [Env.add, this, hj]
theorem Env.add_same (β : Env) (i b r : Nat) : β.add i b r i = some b := by simp [Env.add]
theorem Env.add_room (β : Env) (i b r : Nat) : (β.add i b r).room i = r := by simp [Env.add]
theorem Env.add_other (β : Env) {i j : Nat} (b r : Nat) (h : j ≠ i) : β.add i b r j = β j := by simp [Env.add, h]
theorem Env.add_room_other (β : Env) {i j : Nat} (b r : Nat) (h : j ≠ i) : (β.add i b r).room j = β.room j := by simp [Env.add, h]

mutual
def Rel (β : Env) : SV → Value → Prop
  | .int k n, v => v = .int k n
  | .tt, v => v = .bool true
  | .ff, v => v = .bool false
  | .sb b, v => v = .bool b
  | .cnd g s, v => (g = true → Rel β s v) ∧ (g = false → v = undef)
  | .ptr i off, v => ∃ b, β i = some b ∧ v = .pointer (some ⟨b, off, none⟩)
  | .ep i off e sz k, v => ∃ b, β i = some b ∧ v = .pointer (some ⟨b, off + e * sz + k, none⟩)
  | .nil, v => v = .pointer none
  | .sl i off s sz len cap, v => ∃ b o, β i = some b ∧ ∃ room, v = .slice (some ⟨b, o, none⟩) len room ∧ len ≤ cap ∧ cap ≤ room ∧ (room ≠ 0 → o = off + s * sz)
  | .nilsl, v => v = .slice none 0 0
  | .sq i off s sz len ap, v => ∃ base room, v = .slice base len room ∧ (base = none → room = 0) ∧ (ap = .own → len = 0 → room = 0) ∧ (ap = .full → room = len) ∧
    (0 < len → len ≤ room ∧ ∃ b, β i = some b ∧ base = some ⟨b, off + s * sz, none⟩ ∧ (ap = .own → room * sz ≤ β.room i))
  | .mp i, v => ∃ b, β i = some b ∧ v = .map (some b)
  | .nilmp, v => v = .map none
  | .agg vs, v => ∃ us : List Value, v = .agg us.toArray ∧ RelL β vs us
  | .tup vs, v => ∃ us : List Value, v = .tuple us.toArray ∧ RelL β vs us
  | .clo fn a c, v => ∃ us ws : List Value, v = .func fn us.toArray ws.toArray ∧ RelL β a us ∧ RelL β c ws
  | .nilf, v => v = .nilFunc
  | .ifc t s, v => ∃ u, v = .iface t u ∧ Rel β s u
  | .nilif, v => v = .nilIface
  | .str s, v => v = .string s
  | .und, _ => True
def RelL (β : Env) : List SV → List Value → Prop
  | [], us => us = []
  | s :: ss, us => ∃ v vs, us = v :: vs ∧ Rel β s v ∧ RelL β ss vs
end

mutual
theorem Rel.mono {β β' : Env} (h : β.le β') : ∀ (s : SV) (v : Value), Rel β s v → Rel β' s v
  | .int _ _, _, r => r
  | .tt, _, r => r
  | .ff, _, r => r
  | .sb _, _, r => r
  | .cnd _ s, v, r => ⟨fun g => Rel.mono h s v (r.1 g), r.2⟩
  | .ptr i off, v, r => by obtain ⟨b, hb, hv⟩ := r; exact ⟨b, h _ _ hb, hv⟩
  | .ep .., v, r => by obtain ⟨b, hb, hv⟩ := r; exact ⟨b, h _ _ hb, hv⟩
  | .nil, _, r => r
  | .sl .., v, r => by obtain ⟨b, o, hb, hv⟩ := r; exact ⟨b, o, h _ _ hb, hv⟩
  | .nilsl, _, r => r
  | .sq .., v, r => by obtain ⟨base, room, h1, h2, h3, h5, h4⟩ := r; exact ⟨base, room, h1, h2, h3, h5, fun hl => ⟨(h4 hl).1, let ⟨b, hb, e, hr⟩ := (h4 hl).2; ⟨b, h _ _ hb, e, fun ha => by rw [h.r _ _ hb]; exact hr ha⟩⟩⟩
  | .mp _, v, r => by obtain ⟨b, hb, hv⟩ := r; exact ⟨b, h _ _ hb, hv⟩
  | .nilmp, _, r => r
  | .agg vs, v, r => by obtain ⟨us, hv, hl⟩ := r; exact ⟨us, hv, RelL.mono h vs us hl⟩
  | .tup vs, v, r => by obtain ⟨us, hv, hl⟩ := r; exact ⟨us, hv, RelL.mono h vs us hl⟩
  | .clo _ a c, v, r => by obtain ⟨us, ws, hv, hl, hm⟩ := r; exact ⟨us, ws, hv, RelL.mono h a us hl, RelL.mono h c ws hm⟩
  | .nilf, _, r => r
  | .ifc _ s, v, r => by obtain ⟨u, hv, hl⟩ := r; exact ⟨u, hv, Rel.mono h s u hl⟩
  | .nilif, _, r => r
  | .str _, _, r => r
  | .und, _, r => r
theorem RelL.mono {β β' : Env} (h : β.le β') : ∀ (s : List SV) (v : List Value), RelL β s v → RelL β' s v
  | [], _, r => r
  | s :: ss, us, r => by obtain ⟨v, vs, e, hv, hl⟩ := r; exact ⟨v, vs, e, Rel.mono h s v hv, RelL.mono h ss vs hl⟩
end

/-- A known block. -/
inductive SO where
  | cells (vs : List SV) (ty : TypeId)
  | row (off n cap sz : Nat) (f : Nat → Nat → SV) (ty : TypeId)
  | obj (o : Obj)
  | lp (st : LoopState) (pend : Option Code) (fn n : Nat) (sl : List (Nat × SV)) (params : Array Tmp) (assign body : Code) (D : Nat)

abbrev Slots := List (Nat × SV)
def look (i : Nat) : Slots → Option SV
  | [] => none
  | (j, v) :: r => bif Nat.beq i j then some v else look i r

/-- The word for a block of whatever type. -/
def anyTy : TypeId := 1000000
def TyOk (ty tt : TypeId) : Prop := Nat.beq ty anyTy = true ∨ ty = tt
def tyLe (ty ty' : TypeId) : Bool := Nat.beq ty anyTy || Nat.beq ty ty'
theorem tyLe_ok {ty ty' tt : TypeId} (h : tyLe ty ty' = true) (g : TyOk ty' tt) : TyOk ty tt := by
  unfold tyLe at h
  rw [Bool.or_eq_true] at h
  rcases h with h | h
  · exact .inl h
  · have := Nat.eq_of_beq_eq_true h; subst this; exact g
def ORel (β : Env) : SO → Obj → Prop
  | .cells vs ty, o => ∃ us : List Value, o = .cells us.toArray ty (0, 0) ∧ RelL β vs us
  | .row off n cap sz f ty, o => ∃ (c : Array Value) (fz : Nat × Nat) (tt : TypeId), TyOk ty tt ∧ o = .cells c tt fz ∧ n ≤ cap ∧ off + cap * sz ≤ c.size ∧
      ∀ i k, i < n → k < sz → ∃ u, c[off + i * sz + k]? = some u ∧ Rel β (f i k) u
  | .obj o', o => o = o'
  | .lp st pend fn n sl params assign body D, o => ∃ tmps : Array Value, o = .loop { state := st, pending := pend, fn := fn, tmps := tmps, params := params, assign := assign, body := body, defers := D } ∧ tmps.size = n ∧
      (∀ t v, look t sl = some v → Rel β v (tmps.getD t undef)) ∧ ∀ t v, look t sl = some v → t < n
theorem ORel.mono {β β' : Env} (h : β.le β') (s : SO) (o : Obj) (r : ORel β s o) : ORel β' s o := by
  cases s with
  | cells vs ty => obtain ⟨us, e, hl⟩ := r; exact ⟨us, e, RelL.mono h _ _ hl⟩
  | row off n cap sz f ty =>
    obtain ⟨c, fz, tt, ht, e, hn, hc, hf⟩ := r
    exact ⟨c, fz, tt, ht, e, hn, hc, fun i k hi hk => let ⟨u, hu, hr⟩ := hf i k hi hk; ⟨u, hu, Rel.mono h _ _ hr⟩⟩
  | obj o' => exact r
  | lp st pend fn n sl params assign body D =>
    obtain ⟨tmps, e, h1, h2, h3⟩ := r
    exact ⟨tmps, e, h1, fun t v hv => Rel.mono h _ _ (h2 t v hv), h3⟩

/-- A row of no element need not lie in memory. -/
def SO.Live : SO → Prop
  | .row _ n _ _ _ _ => 0 < n
  | _ => True
/-- No cell of the block is held fast. -/
def loose : Obj → Prop
  | .cells _ _ fz => fz = (0, 0)
  | _ => True
def osize : Obj → Nat
  | .cells c _ _ => c.size
  | _ => 0
/-- And it has at least r cells. -/
structure Fit (r : Nat) (o : Obj) : Prop where
  l : loose o
  s : r ≤ osize o

abbrev Hp := List (Nat × SO)

/-- What a run leaves alone: old blocks, the streams. -/
structure Base where
  D : Nat → Option Obj
  w : World
  pin : Env

def hget (i : Nat) : Hp → Option SO
  | [] => none
  | (j, v) :: r => bif Nat.beq i j then some v else hget i r

structure Mem (β : Env) (hp ro : Hp) (B : Base) (w : World) : Prop where
  own : ∀ i s, hget i hp = some s → s.Live → ∃ b o, β i = some b ∧ B.D b = none ∧ w.heap[b]? = some o ∧ ORel β s o ∧ Fit (β.room i) o
  apart : ∀ i j s t, hget i hp = some s → hget j hp = some t → s.Live → t.Live → i ≠ j → β i ≠ β j
  read : ∀ i s, hget i ro = some s → s.Live → ∃ b o, β i = some b ∧ B.D b = some o ∧ ORel β s o
  old : ∀ b o, B.D b = some o → w.heap[b]? = some o
  os : w.os = B.w.os
  tape : w.tape = B.w.tape
  output : w.output = B.w.output
  size : B.w.heap.size ≤ w.heap.size
  pin : B.pin.le β
structure Sat (β : Env) (hp ro : Hp) (B : Base) (nx : Nat) (w : World) : Prop extends Mem β hp ro B w where
  fresh : ∀ i, nx ≤ i → β i = none

/-- The continuation. -/
inductive SI where
  | code (c : Code)
  | blk (id : Nat)
  | loop (body : Code)
  | scope (body : Code)
  | reg (ops : Array Oper) (k : Nat) (cur : List Oper) (tl : Option (List Nat))
  | inR (l : Nat)
  | begin
  | endR (l : Nat)

def SI.item : SI → Item
  | .code c => .code c
  | .blk id => .inBlock id
  | .loop b => .inLoop b
  | .scope b => .inScope b
  | .reg ops k cur tl => .inRegion ops (List.range' k cur.length ++ tl.getD [])
  | .inR l => .inRangeFunc l
  | .begin => .beginRound
  | .endR l => .endRangeFunc l

/-- A region's rest is the rest of its operations. -/
def SI.ok : SI → Prop
  | .reg ops k cur _ => ∀ i, i < cur.length → ops[k + i]? = cur[i]?
  | _ => True

/-- Whose frame: the function, the loop whose round it is, the blocks of deferred calls that it is to run. -/
structure FId where
  f : Nat
  rnd : Option Nat
  dfs : List Nat
abbrev fid (f : Nat) : FId := ⟨f, none, []⟩
def dfr (l : List Nat) : List Deferred := l.map fun D => { target := .collected D, args := #[] }

structure SFr where
  fn : FId
  n : Nat
  sl : Slots
  todo : List SI

structure FrRel (β : Env) (s : SFr) (fr : Frame) : Prop where
  fn : fr.fn = s.fn.f
  size : fr.tmps.size = s.n
  slot : ∀ t v, look t s.sl = some v → Rel β v (fr.tmps.getD t undef)
  lt : ∀ t v, look t s.sl = some v → t < s.n
  todo : fr.todo = s.todo.map SI.item
  ok : ∀ x ∈ s.todo, x.ok
  defers : fr.defers = dfr s.fn.dfs
  mode : fr.mode = .run
  kind : fr.kind = .normal
  rnd : fr.roundOf = s.fn.rnd

inductive FsRel (β : Env) : List SFr → List Frame → Prop where
  | nil : FsRel β [] []
  | cons {s : SFr} {fr : Frame} {ss : List SFr} {frs : List Frame} : FrRel β s fr → FsRel β ss frs → FsRel β (s :: ss) (fr :: frs)

theorem FrRel.mono {β β' : Env} (h : β.le β') {s : SFr} {fr : Frame} (r : FrRel β s fr) : FrRel β' s fr :=
  { r with slot := fun t v e => Rel.mono h _ _ (r.slot t v e) }
theorem FsRel.mono {β β' : Env} (h : β.le β') {s : List SFr} {fr : List Frame} (r : FsRel β s fr) : FsRel β' s fr := by
  induction r with
  | nil => exact .nil
  | cons a _ ih => exact .cons (a.mono h) ih

structure Cfg where
  top : SFr
  rest : List SFr
  hp : Hp
  nx : Nat

/-- From every machine that fits the configuration the run comes to the end of the lowest frame, and R holds there. -/
def Run (P : Program) (ro : Hp) (B : Base) (f : FuncId) (R : Ending → World → Prop) (c : Cfg) : Prop :=
  ∀ β w fr frs cs, FrRel β c.top fr → FsRel β c.rest frs → Sat β c.hp ro B c.nx w →
    ∃ e w' fr', R e w' ∧ Comes P (lone fr (frs ++ cs) w) (lone fr' cs w') e ∧ fr'.fn = f ∧ fr'.leaving P w' e

theorem Run.step {P : Program} {ro : Hp} {B : Base} {f : FuncId} {R : Ending → World → Prop} {c c' : Cfg}
    (h : ∀ β w fr frs cs, FrRel β c.top fr → FsRel β c.rest frs → Sat β c.hp ro B c.nx w →
      ∃ β' w' fr' frs', Steps P (lone fr (frs ++ cs) w) (lone fr' (frs' ++ cs) w') ∧ FrRel β' c'.top fr' ∧ FsRel β' c'.rest frs' ∧ Sat β' c'.hp ro B c'.nx w')
    (h' : Run P ro B f R c') : Run P ro B f R c := by
  intro β w fr frs cs hf hfs hs
  obtain ⟨β', w', fr', frs', hst, hf', hfs', hs'⟩ := h β w fr frs cs hf hfs hs
  obtain ⟨e, w2, fr2, hR, hc, r⟩ := h' β' w' fr' frs' cs hf' hfs' hs'
  exact ⟨e, w2, fr2, hR, .of_steps hst hc, r⟩

end Sx
