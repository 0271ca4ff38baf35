/- The symbolic machine's steps, and that the model's machine follows them. No condition. -/
import Derived.Test.YtpjabkjacldgcaaEng8
namespace Sx
open Go

/-- Which callees are known by what they give, without entering them. -/
abbrev Sum := Nat → List SV → Option (List Prop × SV)
structure Mode where
  st : Bool
  unr : Bool
  inl : Nat → Bool
  sum : Sum
  keep : Nat → Option (List Nat)

/-- Forgets the slots that no later region asks for. -/
def thin (k : List Nat) : Slots → Option Slots
  | [] => some []
  | (i, v) :: r => match thin k r with
    | some r' => bif hasN i k then some ((i, v) :: r') else some r'
    | none => none

def exitS (id : Nat) : List SI → Option (List SI)
  | [] => none
  | .blk j :: k => bif Nat.beq j id then some k else exitS id k
  | _ :: k => exitS id k

def put (dst : Option Tmp) (v : SV) (n : Nat) (sl : Slots) : Option Slots :=
  match dst with
  | none => some sl
  | some d => bif Nat.ble (d + 1) n then v.force fun v => some ((d, v) :: sl) else none

def enumFrom (i : Nat) : List SV → Slots
  | [] => []
  | v :: r => (i, v) :: enumFrom (i + 1) r

/-- What a function's frame gives. -/
def resOne (P : Program) (sl : Slots) (hp ro : Hp) : ResultVar → Option (List Prop × SV)
  | .tmp t => evs sl (.tmp t)
  | .cell a t => match evs sl (.tmp a) with
    | some (cs, p) => match load P hp ro t p with
      | some (ds, v) => some (cs ++ ds, v)
      | none => none
    | none => none
def resAll (P : Program) (sl : Slots) (hp ro : Hp) : List ResultVar → Option (List Prop × List SV)
  | [] => some ([], [])
  | r :: rs => match resOne P sl hp ro r, resAll P sl hp ro rs with
    | some (cs, v), some (ds, l) => v.force fun v => some (cs ++ ds, v :: l)
    | _, _ => none
def resV (P : Program) (fn : Nat) (sl : Slots) (hp ro : Hp) : Option (List Prop × SV) :=
  match P.funcs[fn]? with
  | some f => match resAll P sl hp ro f.results.toList with
    | some (cs, [v]) => some (cs, v)
    | some (cs, l) => some (cs, .tup l)
    | none => none
  | none => none

/-- The guard's say: the operation runs; it is passed over; it runs if g. -/
inductive Gd where
  | run
  | pass
  | may (g : Bool)
def guardIn (ops : Array Oper) (sl : Slots) (o : Oper) : Option Gd :=
  match o.guard with
  | none => some .run
  | some (j, want) => match (ops[j]?).bind (·.dst) with
    | some t => match look t sl with
      | some .tt => match want with
        | true => some .run
        | false => some .pass
      | some .ff => match want with
        | true => some .pass
        | false => some .run
      | some (.sb g) => match want with
        | true => some (.may g)
        | false => some (.may (!g))
      | some (.cnd g (.sb h)) => match want with
        | true => some (.may (g && h))
        | false => some (.may (g && !h))
      | some (.cnd g .tt) => match want with
        | true => some (.may g)
        | false => some .pass
      | some (.cnd g .ff) => match want with
        | true => some .pass
        | false => some (.may g)
      | _ => none
    | none => none

def quietAll (P : Program) (st : Bool) (sl : Slots) (hp ro : Hp) (op : Op) : Option (List Prop × SV) :=
  match quiet P st sl hp ro op with
  | some r => some r
  | none => quiet2 P sl op

def appL : List SV → List SV → Option (List SV)
  | [], b => some b
  | x :: a, b => match appL a b with
    | some r => some (x :: r)
    | none => none
/-- A call: who is called, with what. -/
def callee (P : Program) (sl : Slots) : Op → Option (List Prop × Nat × Func × Code × List SV)
  | .call { callee := .value f, args := as, argTypes := _ } => match evs sl f, evList sl as.toList with
    | some (cs, .clo (.func g) a c), some (ds, l) => match P.funcs[g]? with
      | some fn => match fn.body with
        | some b => match appL l c with
          | some lc => match appL a lc with
            | some alc => some (cs ++ ds, g, fn, b, alc)
            | none => none
          | none => none
        | none => none
      | none => none
    | _, _ => none
  | _ => none

def sstep (P : Program) (M : Mode) (ro : Hp) : Cfg → Option (List Prop × Cfg)
  | ⟨⟨fn, n, sl, .code .skip :: k⟩, rest, hp, nx⟩ => some ([], ⟨⟨fn, n, sl, k⟩, rest, hp, nx⟩)
  | ⟨⟨fn, n, sl, .code (.label _) :: k⟩, rest, hp, nx⟩ => some ([], ⟨⟨fn, n, sl, k⟩, rest, hp, nx⟩)
  | ⟨⟨fn, n, sl, .blk _ :: k⟩, rest, hp, nx⟩ => some ([], ⟨⟨fn, n, sl, k⟩, rest, hp, nx⟩)
  | ⟨⟨fn, n, sl, .scope _ :: k⟩, rest, hp, nx⟩ => some ([], ⟨⟨fn, n, sl, k⟩, rest, hp, nx⟩)
  | ⟨⟨fn, n, sl, .code (.seq a b) :: k⟩, rest, hp, nx⟩ => some ([], ⟨⟨fn, n, sl, .code a :: .code b :: k⟩, rest, hp, nx⟩)
  | ⟨⟨fn, n, sl, .code (.block id a) :: k⟩, rest, hp, nx⟩ => some ([], ⟨⟨fn, n, sl, .code a :: .blk id :: k⟩, rest, hp, nx⟩)
  | ⟨⟨fn, n, sl, .code (.scope a) :: k⟩, rest, hp, nx⟩ => some ([], ⟨⟨fn, n, sl, .code a :: .scope a :: k⟩, rest, hp, nx⟩)
  | ⟨⟨fn, n, sl, .code (.cond x a b) :: k⟩, rest, hp, nx⟩ => match ev sl x with
    | some .tt => some ([], ⟨⟨fn, n, sl, .code a :: k⟩, rest, hp, nx⟩)
    | some .ff => some ([], ⟨⟨fn, n, sl, .code b :: k⟩, rest, hp, nx⟩)
    | _ => none
  | ⟨⟨fn, n, sl, .code (.loop a) :: k⟩, rest, hp, nx⟩ => bif M.unr then some ([], ⟨⟨fn, n, sl, .code a :: .loop a :: k⟩, rest, hp, nx⟩) else none
  | ⟨⟨fn, n, sl, .loop a :: k⟩, rest, hp, nx⟩ => bif M.unr then some ([], ⟨⟨fn, n, sl, .code a :: .loop a :: k⟩, rest, hp, nx⟩) else none
  | ⟨⟨fn, n, sl, .code (.exit id) :: k⟩, rest, hp, nx⟩ => match exitS id k with
    | some k' => some ([], ⟨⟨fn, n, sl, k'⟩, rest, hp, nx⟩)
    | none => none
  | ⟨⟨fn, n, sl, .code (.region _ ops false) :: k⟩, rest, hp, nx⟩ => some ([], ⟨⟨fn, n, sl, .reg ops 0 ops.toList none :: k⟩, rest, hp, nx⟩)
  | ⟨⟨fn, n, sl, .reg _ _ [] none :: k⟩, rest, hp, nx⟩ => match M.keep fn.f with
    | none => some ([], ⟨⟨fn, n, sl, k⟩, rest, hp, nx⟩)
    | some l => match thin l sl with
      | some sl' => some ([], ⟨⟨fn, n, sl', k⟩, rest, hp, nx⟩)
      | none => none
  | ⟨⟨⟨f, none, []⟩, n, sl, .code .ret :: _⟩, ⟨cfn, cn, csl, .reg ops i (o :: cur) tl :: k⟩ :: rest, hp, nx⟩ => match resV P f sl hp ro with
    | some (cs, v) => match put o.dst v cn csl with
      | some csl' => some (cs, ⟨⟨cfn, cn, csl', .reg ops (i + 1) cur tl :: k⟩, rest, hp, nx⟩)
      | none => none
    | none => none
  | ⟨⟨⟨f, none, []⟩, n, sl, []⟩, ⟨cfn, cn, csl, .reg ops i (o :: cur) tl :: k⟩ :: rest, hp, nx⟩ => match resV P f sl hp ro with
    | some (cs, v) => match put o.dst v cn csl with
      | some csl' => some (cs, ⟨⟨cfn, cn, csl', .reg ops (i + 1) cur tl :: k⟩, rest, hp, nx⟩)
      | none => none
    | none => none
  | ⟨⟨fn, n, sl, .reg ops i (o :: cur) tl :: k⟩, rest, hp, nx⟩ => match guardIn ops sl o with
    | none => none
    | some .pass => match put o.dst .und n sl with
      | some sl' => some ([], ⟨⟨fn, n, sl', .reg ops (i + 1) cur tl :: k⟩, rest, hp, nx⟩)
      | none => none
    | some (.may g) => match quietAll P M.st sl hp ro o.op with
      | some (cs, v) => match put o.dst (.cnd g v) n sl with
        | some sl' => some (cs.map (fun p => g = true → p), ⟨⟨fn, n, sl', .reg ops (i + 1) cur tl :: k⟩, rest, hp, nx⟩)
        | none => none
      | none => match callee P sl o.op with
        | some (cs, f, _, _, as) => match M.sum f as with
          | some (ds, v) => match put o.dst (.cnd g v) n sl with
            | some sl' => some ((cs ++ ds).map (fun p => g = true → p), ⟨⟨fn, n, sl', .reg ops (i + 1) cur tl :: k⟩, rest, hp, nx⟩)
            | none => none
          | none => none
        | none => none
    | some .run => match quietAll P M.st sl hp ro o.op with
      | some (cs, v) => match put o.dst v n sl with
        | some sl' => some (cs, ⟨⟨fn, n, sl', .reg ops (i + 1) cur tl :: k⟩, rest, hp, nx⟩)
        | none => none
      | none => match loud P sl hp ro nx o.op with
        | some ⟨some v, hp', nx', cs⟩ => match put o.dst v n sl with
          | some sl' => natF nx' fun nx' => some (cs, ⟨⟨fn, n, sl', .reg ops (i + 1) cur tl :: k⟩, rest, hp', nx'⟩)
          | none => none
        | some ⟨none, hp', nx', cs⟩ => match put o.dst .und n sl with
          | some sl' => natF nx' fun nx' => some (cs, ⟨⟨fn, n, sl', .reg ops (i + 1) cur tl :: k⟩, rest, hp', nx'⟩)
          | none => none
        | none => match callee P sl o.op with
          | some (cs, f, g, c, as) => match M.sum f as with
            | some (ds, v) => match put o.dst v n sl with
              | some sl' => some (cs ++ ds, ⟨⟨fn, n, sl', .reg ops (i + 1) cur tl :: k⟩, rest, hp, nx⟩)
              | none => none
            | none => bif M.inl f then some (cs, ⟨⟨fid f, as.length + (g.ntmps - as.length), enumFrom 0 as, [.code c]⟩, ⟨fn, n, sl, .reg ops i (o :: cur) tl :: k⟩ :: rest, hp, nx⟩) else none
          | none => none
  | _ => none

def pushAll : List Prop → List Prop → List Prop
  | [], acc => acc
  | p :: ps, acc => pushAll ps (p :: acc)
def exec (P : Program) (M : Mode) (ro : Hp) : Nat → List Prop → Cfg → List Prop × Cfg
  | 0, acc, c => (acc, c)
  | n + 1, acc, c => match sstep P M ro c with
    | none => (acc, c)
    | some (cs, c') => match pushAll cs acc with
      | [] => exec P M ro n [] c'
      | p :: ps => exec P M ro n (p :: ps) c'

theorem pushAll_mem {p : Prop} : ∀ {cs acc : List Prop}, (p ∈ cs ∨ p ∈ acc) → p ∈ pushAll cs acc
  | [], acc, h => by simpa [pushAll] using h
  | q :: cs, acc, h => by
    simp only [pushAll]
    apply pushAll_mem
    rcases h with h | h
    · cases h with
      | head => exact .inr (List.mem_cons_self ..)
      | tail _ h => exact .inl h
    · exact .inr (List.mem_cons_of_mem _ h)
theorem exec_acc {P : Program} {M : Mode} {ro : Hp} : ∀ {n : Nat} {acc : List Prop} {c : Cfg} {p : Prop}, p ∈ acc → p ∈ (exec P M ro n acc c).1
  | 0, acc, c, p, h => h
  | n + 1, acc, c, p, h => by
    simp only [exec]
    split
    · exact h
    · rename_i cs c' _
      have hm : p ∈ pushAll cs acc := pushAll_mem (.inr h)
      split
      · rename_i e; rw [e] at hm; cases hm
      · rename_i q qs e; rw [e] at hm; exact exec_acc hm

theorem exec_run {P : Program} {M : Mode} {ro : Hp} {B : Base} {f : FuncId} {R : Ending → World → Prop}
    (hstep : ∀ {c c' : Cfg} {cs : List Prop}, sstep P M ro c = some (cs, c') → All cs → Run P ro B f R c' → Run P ro B f R c) :
    ∀ {n : Nat} {acc cs : List Prop} {c c' : Cfg}, exec P M ro n acc c = (cs, c') → All cs → Run P ro B f R c' → Run P ro B f R c
  | 0, acc, cs, c, c', h, hc, hr => by simp only [exec, Prod.mk.injEq] at h; obtain ⟨rfl, rfl⟩ := h; exact hr
  | n + 1, acc, cs, c, c', h, hc, hr => by
    have h' := h
    simp only [exec] at h
    split at h
    · simp only [Prod.mk.injEq] at h; obtain ⟨rfl, rfl⟩ := h; exact hr
    · rename_i ds c1 e1
      refine hstep e1 ?_ ?_
      · intro p hp
        apply hc
        have hm : p ∈ pushAll ds acc := pushAll_mem (.inl hp)
        split at h
        · rename_i e; rw [e] at hm; cases hm
        · rename_i q qs e
          rw [e] at hm
          have := exec_acc (P := P) (M := M) (ro := ro) (n := n) (c := c1) hm
          rw [h] at this; exact this
      · split at h
        · exact exec_run hstep h hc hr
        · exact exec_run hstep h hc hr
end Sx
