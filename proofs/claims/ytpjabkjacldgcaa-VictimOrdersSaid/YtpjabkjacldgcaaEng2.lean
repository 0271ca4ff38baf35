/- The symbolic machine's operations. Definitions only; no condition. -/
import Derived.Test.YtpjabkjacldgcaaEng1
import Derived.Laws.StructEq
import Derived.ChangeKeysEq
namespace Sx
open Go

def scal : Value → Option SV
  | .int k n => some (.int k n)
  | .bool true => some .tt
  | .bool false => some .ff
  | .pointer none => some .nil
  | .slice none 0 0 => some .nilsl
  | .map none => some .nilmp
  | .nilFunc => some .nilf
  | .nilIface => some .nilif
  | .string s => some (.str s)
  | _ => none
def scals : List Value → Option (List SV)
  | [] => some []
  | v :: r => match scal v, scals r with
    | some s, some ss => some (s :: ss)
    | _, _ => none
def ofVal : Value → Option SV
  | .agg cs => match scals cs.toList with
    | some l => some (.agg l)
    | none => none
  | .iface t v => match scal v with
    | some s => some (.ifc t s)
    | none => none
  | v => scal v

def ev (sl : Slots) : Operand → Option SV
  | .tmp t => look t sl
  | .const v => ofVal v
  | .func f => some (.clo (.func f) [] [])
  | .global _ => none

/-- A value whose head is laid open before the rest goes on. -/
def SV.force {α : Type} (v : SV) (k : SV → α) : α :=
  match v with
  | .int a b => k (.int a b)
  | .tt => k .tt
  | .ff => k .ff
  | .sb b => k (.sb b)
  | .cnd g v => k (.cnd g v)
  | .ptr i o => k (.ptr i o)
  | .ep i o e s j => k (.ep i o e s j)
  | .nil => k .nil
  | .sl i o s z l c => k (.sl i o s z l c)
  | .nilsl => k .nilsl
  | .sq i o s z l a => k (.sq i o s z l a)
  | .mp i => k (.mp i)
  | .nilmp => k .nilmp
  | .agg vs => k (.agg vs)
  | .tup vs => k (.tup vs)
  | .clo f a c => k (.clo f a c)
  | .nilf => k .nilf
  | .ifc t v => k (.ifc t v)
  | .nilif => k .nilif
  | .str s => k (.str s)
  | .und => k .und
/-- A list, laid open. -/
def forceL {α : Type} : List SV → (List SV → α) → α
  | [], k => k []
  | v :: r, k => forceL r fun r => v.force fun v => k (v :: r)
theorem SV.force_eq {α : Type} (v : SV) (k : SV → α) : v.force k = k v := by cases v <;> rfl

theorem forceL_eq {α : Type} : ∀ (l : List SV) (k : List SV → α), forceL l k = k l
  | [], k => rfl
  | v :: r, k => by simp only [forceL, forceL_eq r, SV.force_eq]
def natTab : List Nat := [0, 1, 2, 3, 4, 5, 6, 7, 8, 9, 10, 11, 12, 13, 14, 15, 16, 17, 18, 19, 20, 21, 22, 23, 24, 25, 26, 27, 28, 29, 30, 31, 32, 33, 34, 35, 36, 37, 38, 39, 40, 41, 42, 43, 44, 45, 46, 47, 48, 49, 50, 51, 52, 53, 54, 55, 56, 57, 58, 59, 60, 61, 62, 63, 64, 65, 66, 67, 68, 69, 70, 71, 72, 73, 74, 75, 76, 77, 78, 79, 80, 81, 82, 83, 84, 85, 86, 87, 88, 89, 90, 91, 92, 93, 94, 95, 96, 97, 98, 99, 100, 101, 102, 103, 104, 105, 106, 107, 108, 109, 110, 111, 112, 113, 114, 115, 116, 117, 118, 119, 120, 121, 122, 123, 124, 125, 126, 127, 128, 129, 130, 131, 132, 133, 134, 135, 136, 137, 138, 139, 140, 141, 142, 143, 144, 145, 146, 147, 148, 149, 150, 151, 152, 153, 154, 155, 156, 157, 158, 159]
def nth : List Nat → Nat → Option Nat
  | [], _ => none
  | a :: _, 0 => some a
  | _ :: l, n + 1 => nth l n
/-- A small number, written as a literal before the rest goes on. -/
def natF {α : Type} (n : Nat) (k : Nat → α) : α :=
  match nth natTab n with
  | some m => k m
  | none => k n
theorem nth_get : ∀ (l : List Nat) (n : Nat), nth l n = l[n]?
  | [], n => by simp [nth]
  | a :: l, 0 => by simp [nth]
  | a :: l, n + 1 => by simp [nth, nth_get l n]
theorem natF_eq {α : Type} (n : Nat) (k : Nat → α) : natF n k = k n := by
  have h : natTab = List.range 160 := by decide
  unfold natF
  rw [nth_get, h]
  by_cases hn : n < 160
  · rw [List.getElem?_range hn]
  · rw [List.getElem?_eq_none (by simpa using hn)]

/-- A value under a guard, and the guard. -/
def SV.strip : SV → List Prop × SV
  | .cnd g v => ([g = true], v)
  | v => ([], v)
/-- An operand, stripped, with what its use owes. -/
def evs (sl : Slots) (x : Operand) : Option (List Prop × SV) :=
  match ev sl x with
  | some v => some v.strip
  | none => none

def hset (i : Nat) (o : SO) : Hp → Option Hp
  | [] => some []
  | (j, v) :: r => match hset i o r with
    | some r' => bif Nat.beq i j then some ((j, o) :: r') else some ((j, v) :: r')
    | none => none

/-- m cells from the k-th on. -/
def cut : List SV → Nat → Nat → Option (List SV)
  | _, 0, 0 => some []
  | v :: l, 0, m + 1 => match cut l 0 m with
    | some r => some (v :: r)
    | none => none
  | _ :: l, k + 1, m => cut l k m
  | [], _, _ => none

def SV.cells : SV → List SV
  | .agg vs => vs
  | v => [v]

/-- What an operation gives. -/
structure Res where
  v : Option SV
  hp : Hp
  nx : Nat
  cs : List Prop

def sizeIn (P : Program) (t : TypeId) : Option Nat :=
  match P.info? t with
  | some i => some i.size
  | none => none
def aggIn (P : Program) (t : TypeId) : Option Bool :=
  match P.underlying t with
  | some (.struct _) => some true
  | some (.array _ _) => some true
  | some _ => some false
  | none => none

def famFrom (f : Nat → Nat → SV) (e k : Nat) : Nat → Option (List SV)
  | 0 => some []
  | m + 1 => match famFrom f e (k + 1) m with
    | some r => (f e k).force fun v => some (v :: r)
    | none => none

/-- Reads m cells. -/
def oread (o : SO) (off e sz k m : Nat) : Option (List Prop × List SV) :=
  match o with
  | .cells vs _ =>
    match cut vs (off + e * sz + k) m with
    | some l => some ([], l)
    | none => none
  | .row off' n _ sz' f _ =>
    bif Nat.beq sz sz' && Nat.ble (k + m) sz then
      match famFrom f e k m with
      | some l => some ([off = off' ∧ e < n], l)
      | none => none
      else none
  | .obj _ => none
  | .lp .. => none

def oplace : SV → Option (Nat × Nat × Nat × Nat × Nat)
  | .ptr i off => some (i, off, 0, 0, 0)
  | .ep i off e sz k => some (i, off, e, sz, k)
  | _ => none

def hread (hp ro : Hp) (a : SV) (m : Nat) : Option (List Prop × List SV) :=
  match oplace a with
  | some (i, off, e, sz, k) =>
    match hget i hp with
    | some o => oread o off e sz k m
    | none => match hget i ro with
      | some o => oread o off e sz k m
      | none => none
  | none => none

def load (P : Program) (hp ro : Hp) (t : TypeId) (a : SV) : Option (List Prop × SV) :=
  match aggIn P t with
  | some true => match sizeIn P t with
    | some m => match hread hp ro a m with
      | some (cs, l) => some (cs, .agg l)
      | none => none
    | none => none
  | some false => match hread hp ro a 1 with
    | some (cs, [v]) => some (cs, v)
    | _ => none
  | none => none

def setAt : List SV → Nat → List SV → Option (List SV)
  | l, 0, [] => some l
  | _ :: l, 0, v :: vs => match setAt l 0 vs with
    | some r => some (v :: r)
    | none => none
  | x :: l, k + 1, vs => match setAt l k vs with
    | some r => some (x :: r)
    | none => none
  | [], _, _ => none

def updF (f : Nat → Nat → SV) (e k : Nat) (vs : List SV) : Nat → Nat → SV := fun i j => if i = e ∧ k ≤ j ∧ j < k + vs.length then vs.getD (j - k) .und else f i j

def owrite (o : SO) (off e sz k : Nat) (vs : List SV) : Option (List Prop × SO) :=
  match o with
  | .cells us ty => match setAt us (off + e * sz + k) vs with
    | some r => some ([], .cells r ty)
    | none => none
  | .row off' n cap sz' f ty =>
    bif Nat.beq sz sz' && Nat.ble (k + vs.length) sz then some ([off = off' ∧ e < n], .row off' n cap sz' (updF f e k vs) ty) else none
  | .obj _ => none
  | .lp .. => none

def storable : SV → Bool
  | .agg _ | .tup _ | .cnd _ _ | .und => false
  | _ => true

def store (P : Program) (hp : Hp) (t : TypeId) (a v : SV) : Option (List Prop × Nat × SO) :=
  match sizeIn P t, oplace a with
  | some m, some (i, off, e, sz, k) =>
    bif Nat.beq v.cells.length m && v.cells.all storable then
    match hget i hp with
    | some o => match owrite o off e sz k v.cells with
      | some (cs, o') => some (cs, i, o')
      | none => none
    | none => none
    else none
  | _, _ => none

/-- The number fits its kind. -/
def Fits (k : IntKind) (x : Int) : Prop := k.min ≤ x ∧ x ≤ k.max

def arith (st : Bool) (op : BinOp) (k : IntKind) (a b : Int) : Option (List Prop × SV) :=
  let r := match op with
    | .add => some (a + b)
    | .sub => some (a - b)
    | .mul => some (a * b)
    | _ => none
  match r with
  | some x => if st && k.signed then some ([Fits k x], .int k x) else some ([], .int k (k.wrap x))
  | none => none
def divi (st : Bool) (op : BinOp) (k : IntKind) (a b : Int) : Option (List Prop × SV) :=
  match op, st with
  | .quo, true => some ([0 ≤ a, 0 < b, Fits k a], .int k (a / b))
  | .rem, true => some ([0 ≤ a, 0 < b], .int k (a % b))
  | .quo, false => some ([b ≠ 0], .int k (k.wrap (a.tdiv b)))
  | .rem, false => some ([b ≠ 0], .int k (a.tmod b))
  | _, _ => none
def bits (op : BinOp) (k : IntKind) (a b : Int) : Option SV :=
  match op with
  | .and => some (.int k (k.wrap (BitVec.ofInt k.bits a &&& BitVec.ofInt k.bits b).toNat))
  | .or => some (.int k (k.wrap (BitVec.ofInt k.bits a ||| BitVec.ofInt k.bits b).toNat))
  | .xor => some (.int k (k.wrap (BitVec.ofInt k.bits a ^^^ BitVec.ofInt k.bits b).toNat))
  | .andNot => some (.int k (k.wrap (BitVec.ofInt k.bits a &&& ~~~ BitVec.ofInt k.bits b).toNat))
  | _ => none
def cmpi (op : BinOp) (a b : Int) : Option SV :=
  match op with
  | .eql => some (.sb (decide (a = b)))
  | .neq => some (.sb (!decide (a = b)))
  | .lss => some (.sb (decide (a < b)))
  | .leq => some (.sb (decide (a ≤ b)))
  | .gtr => some (.sb (decide (b < a)))
  | .geq => some (.sb (decide (b ≤ a)))
  | _ => none
def shif (op : BinOp) (k : IntKind) (a b : Int) : Option (List Prop × SV) :=
  match op with
  | .shl => some ([0 ≤ b], .int k (k.wrap (a * 2 ^ (min b.toNat k.bits))))
  | .shr => some ([0 ≤ b], .int k (a.fdiv (2 ^ (min b.toNat k.bits))))
  | _ => none
/-- A truth value's own Bool. -/
def tr : SV → Option Bool
  | .tt => some true
  | .ff => some false
  | .sb b => some b
  | _ => none
def keq (a b : IntKind) : Bool := match a, b with
  | .i8, .i8 | .i16, .i16 | .i32, .i32 | .i64, .i64 | .u8, .u8 | .u16, .u16 | .u32, .u32 | .u64, .u64 => true
  | _, _ => false
def binI (st : Bool) (op : BinOp) (k : IntKind) (a b : Int) : Option (List Prop × SV) :=
  match op with
  | .add | .sub | .mul => arith st op k a b
  | .quo | .rem => divi st op k a b
  | .and | .or | .xor | .andNot => match bits op k a b with
    | some v => some ([], v)
    | none => none
  | .shl | .shr => shif op k a b
  | _ => match cmpi op a b with
    | some v => some ([], v)
    | none => none
def isShift : BinOp → Bool
  | .shl | .shr => true
  | _ => false
/-- A struct of n integers, none of its fields blank: what '==' needs to know of it. -/
def RowEq (P : Program) (t : TypeId) (n : Nat) : Prop :=
  P.underlying t = some (.struct (P.fieldsOf t)) ∧ P.stoodInHeld t = false ∧ P.eqGuardType P.depth t = false ∧ (P.fieldsOf t).toList.length = n ∧
    ∀ (i : Nat) (f : Field), (P.fieldsOf t).toList[i]? = some f → f.name ≠ "_" ∧ f.offset = i ∧ ∃ k, P.underlying f.type = some (.int k)
def IsFn (P : Program) (t : TypeId) : Prop := ∃ a b c, P.underlying t = some (.func a b c)
def eqInts : List SV → List SV → Option Bool
  | [], [] => some true
  | .int k a :: xs, .int k' b :: ys => bif keq k k' then match eqInts xs ys with
      | some r => some (decide (a = b) && r)
      | none => none
    else none
  | _, _ => none
def eqFn : SV → SV → Option Bool
  | .clo .., .nilf => some false
  | .nilf, .clo .. => some false
  | .nilf, .nilf => some true
  | _, _ => none
def eqOp (op : BinOp) (b : Bool) : Option SV :=
  match op with
  | .eql => some (.sb b)
  | .neq => some (.sb (!b))
  | _ => none
def bin (P : Program) (st : Bool) (op : BinOp) (t : TypeId) (x y : SV) : Option (List Prop × SV) :=
  match x, y with
  | .int k a, .int k' b => bif isShift op || keq k k' then binI st op k a b else none
  | .agg xs, .agg ys => match eqInts xs ys with
    | some b => match eqOp op b with
      | some v => some ([RowEq P t xs.length], v)
      | none => none
    | none => none
  | x, y => match eqFn x y with
    | some b => match eqOp op b with
      | some v => some ([IsFn P t], v)
      | none => none
    | none => none

def pick (c a b : SV) : Option (List Prop × SV) :=
  match c with
  | .tt => some (a.strip)
  | .ff => some (b.strip)
  | .sb c => match a.strip, b.strip with
    | (ca, a), (cb, b) => match a, b with
      | .sb a, .ff => some (ca.map (fun p => c = true → p) ++ cb.map (fun p => c = false → p), .sb (c && a))
      | .tt, .sb b => some (ca.map (fun p => c = true → p) ++ cb.map (fun p => c = false → p), .sb (c || b))
      | .tt, .ff => some (ca.map (fun p => c = true → p) ++ cb.map (fun p => c = false → p), .sb c)
      | a, b => match tr a, tr b with
        | some a, some b => some (ca.map (fun p => c = true → p) ++ cb.map (fun p => c = false → p), .sb (bif c then a else b))
        | _, _ => none
  | _ => none

def fieldIn (P : Program) (t : TypeId) (f : Nat) : Option (Nat × TypeId) :=
  match P.underlying t with
  | some (.struct fs) => match fs[f]? with
    | some g => some (g.offset, g.type)
    | none => none
  | _ => none
def addOff (a : SV) (n : Nat) : Option SV :=
  match a with
  | .ptr i off => natF (off + n) fun m => some (.ptr i m)
  | .ep i off e sz k => natF (k + n) fun m => some (.ep i off e sz m)
  | _ => none
def fieldAddr (P : Program) (t : TypeId) (a : SV) (f : Nat) : Option SV :=
  match fieldIn P t f with
  | some (o, ft) => match sizeIn P ft with
    | some (_ + 1) => addOff a o
    | _ => none
  | none => none
def partOf (P : Program) (t : TypeId) (l : List SV) (off : Nat) : Option SV :=
  match aggIn P t with
  | some true => match sizeIn P t with
    | some m => match cut l off m with
      | some r => some (.agg r)
      | none => none
    | none => none
  | some false => match l.drop off with
    | v :: _ => some v
    | [] => none
  | none => none

/-- An address's element. -/
def indexAddr (P : Program) (t : TypeId) (a ix : SV) : Option (List Prop × SV) :=
  match P.underlying t, a, ix with
  | some (.slice el), .sl i off s sz len _, .int _ n => match sizeIn P el with
    | some m => bif Nat.beq m sz then some ([0 ≤ n, n < len], .ep i off (s + n.toNat) sz 0) else none
    | none => none
  | some (.slice el), .sq i off s sz len _, .int _ n => match sizeIn P el with
    | some m => bif Nat.beq m sz then some ([0 ≤ n, n < len], .ep i off (s + n.toNat) sz 0) else none
    | none => none
  | some (.array len el), .ptr i off, .int _ n => match sizeIn P el with
    | some m => some ([0 ≤ n, n < len], .ep i off n.toNat m 0)
    | none => none
  | some (.array len el), .ep i off e sz k, .int _ n => match sizeIn P el with
    | some m => some ([0 ≤ n, n < len], .ep i off e sz (k + n.toNat * m))
    | none => none
  | _, _, _ => none

def zeroIn (P : Program) (t : TypeId) : Option SV :=
  match P.info? t with
  | some i => match i.zero with
    | some v => ofVal v
    | none => none
  | none => none

/-- The operations that only give a value and touch nothing. -/
def quiet (P : Program) (st : Bool) (sl : Slots) (hp ro : Hp) : Op → Option (List Prop × SV)
  | .move x => evs sl x
  | .assign x => evs sl x
  | .pick c a b => match ev sl c, ev sl a, ev sl b with
    | some (.cnd g c), some a, some b => match pick c a b with
      | some (cs, v) => some ((g = true) :: cs, v)
      | none => none
    | some c, some a, some b => pick c a b
    | _, _, _ => none
  | .load t x => match evs sl x with
    | some (cs, a) => match load P hp ro t a with
      | some (ds, v) => some (cs ++ ds, v)
      | none => none
    | none => none
  | .nilCheck x => match evs sl x with
    | some (cs, .ptr i o) => some (cs, .ptr i o)
    | some (cs, .ep i o e s k) => some (cs, .ep i o e s k)
    | some (cs, .clo (.func f) a c) => some (cs, .clo (.func f) a c)
    | _ => none
  | .binOp op t x y _ => match evs sl x, evs sl y with
    | some (cs, a), some (ds, b) => match bin P st op t a b with
      | some (es, v) => some (cs ++ ds ++ es, v)
      | none => none
    | _, _ => none
  | .unOp .not _ x => match evs sl x with
    | some (cs, .tt) => some (cs, .ff)
    | some (cs, .ff) => some (cs, .tt)
    | some (cs, .sb b) => some (cs, .sb (!b))
    | _ => none
  | .unOp .neg _ x => match evs sl x with
    | some (cs, .int k n) => match arith st .sub k 0 n with
      | some (ds, v) => some (cs ++ ds, v)
      | none => none
    | _ => none
  | .convert src dst x => match evs sl x with
    | some (cs, .int _ n) => match P.underlying src, P.underlying dst with
      | some (.int _), some (.int k) => some (cs, .int k (k.wrap n))
      | _, _ => none
    | _ => none
  | .fieldAddr t x f => match evs sl x with
    | some (cs, a) => match fieldAddr P t a f with
      | some v => some (cs, v)
      | none => none
    | none => none
  | .field t x f => match evs sl x, fieldIn P t f with
    | some (cs, .agg l), some (o, ft) => match partOf P ft l o with
      | some v => some (cs, v)
      | none => none
    | _, _ => none
  | .indexAddr t x i => match evs sl x, evs sl i with
    | some (cs, a), some (ds, n) => match indexAddr P t a n with
      | some (es, v) => some (cs ++ ds ++ es, v)
      | none => none
    | _, _ => none
  | .extract x i => match evs sl x with
    | some (cs, .tup l) => match l.drop i with
      | v :: _ => some (cs, v)
      | [] => none
    | _ => none
  | _ => none

end Sx
