/- More operations of the symbolic machine: those that give a value, and those that make memory. No condition. -/
import Derived.Test.YtpjabkjacldgcaaEngB
import Derived.Laws.MakeOwn
namespace Sx
open Go

def sfill (place : Nat → Option (Nat × Nat)) (cells : List SV) : List (Nat × SV) → Option (List SV)
  | [] => some cells
  | (i, v) :: rest => match place i with
    | some (off, size) => bif Nat.beq v.cells.length size && v.cells.all storable then
        match setAt cells off v.cells with
        | some r => sfill place r rest
        | none => none
        else none
    | none => none
def evParts (sl : Slots) : List (Nat × Operand) → Option (List Prop × List (Nat × SV))
  | [] => some ([], [])
  | (i, x) :: r => match evs sl x, evParts sl r with
    | some (cs, v), some (ds, l) => some (cs ++ ds, (i, v) :: l)
    | _, _ => none
def evList (sl : Slots) : List Operand → Option (List Prop × List SV)
  | [] => some ([], [])
  | x :: r => match evs sl x, evList sl r with
    | some (cs, v), some (ds, l) => some (cs ++ ds, v :: l)
    | _, _ => none
def placesIn (P : Program) : List Field → Option (List (Nat × Nat))
  | [] => some []
  | f :: r => match sizeIn P f.type, placesIn P r with
    | some s, some l => some ((f.offset, s) :: l)
    | _, _ => none
def zeroCellsIn (P : Program) (t : TypeId) : Option (List SV) :=
  match zeroIn P t with
  | some z => bif z.cells.all storable then some z.cells else none
  | none => none
def buildV (P : Program) (t : TypeId) (parts : List (Nat × SV)) : Option (List SV) :=
  match P.underlying t with
  | some (.array _ e) => match zeroCellsIn P t, sizeIn P e with
    | some z, some s => sfill (fun i => some (i * s, s)) z parts
    | _, _ => none
  | some (.struct fields) => match zeroCellsIn P t, placesIn P fields.toList with
    | some z, some places => sfill (fun i => places[i]?) z parts
    | _, _ => none
  | _ => none

def bound (x : Option SV) (top : Nat) (dflt : Nat) : Option (List Prop × Nat) :=
  match x with
  | none => some ([], dflt)
  | some (.int _ n) => some ([0 ≤ n, n ≤ top], n.toNat)
  | _ => none
def sliceV (P : Program) (t : TypeId) (x : SV) (lo hi mx : Option SV) : Option (List Prop × SV) :=
  match P.underlying t, x with
  | some (.slice el), .sl i off s sz len cap => match sizeIn P el with
    | some m => bif Nat.beq m sz && (hi.isSome || mx.isNone) then
        match bound mx cap cap with
        | some (c1, M) => match bound hi M len with
          | some (c2, H) => match lo with
            | none => some (c1 ++ c2, .sl i off s sz H M)
            | some (.int _ l) => some (c1 ++ c2 ++ [0 ≤ l, l ≤ H], .sl i off (s + l.toNat) sz (H - l.toNat) (M - l.toNat))
            | _ => none
          | none => none
        | none => none
      else none
    | none => none
  | some (.slice el), .sq i off s sz len _ => match sizeIn P el with
    | some m => bif Nat.beq m sz && (hi.isSome || mx.isNone) then
        match bound hi len len with
        | some (c2, H) => match mx, lo with
          | none, none => some (c2, .sq i off s sz H .no)
          | none, some (.int _ l) => some (c2 ++ [0 ≤ l, l ≤ H], .sq i off (s + l.toNat) sz (H - l.toNat) .no)
          | some (.int _ x), none => some (c2 ++ [x = H], .sq i off s sz H .full)
          | some (.int _ x), some (.int _ l) => some (c2 ++ [x = H, 0 ≤ l, l ≤ H], .sq i off (s + l.toNat) sz (H - l.toNat) .full)
          | _, _ => none
        | none => none
      else none
    | none => none
  | some (.slice el), .nilsl => match sizeIn P el with
    | some _ => bif (hi.isSome || mx.isNone) then
        match bound mx 0 0 with
        | some (c1, _) => match bound hi 0 0 with
          | some (c2, _) => match bound lo 0 0 with
            | some (c3, _) => some (c1 ++ c2 ++ c3, .nilsl)
            | none => none
          | none => none
        | none => none
      else none
    | none => none
  | some (.array n el), .ptr i off => match sizeIn P el with
    | some m => bif (hi.isSome || mx.isNone) then
        match bound mx n n with
        | some (c1, M) => match bound hi M n with
          | some (c2, H) => match lo with
            | none => some (c1 ++ c2, .sl i off 0 m H M)
            | some (.int _ l) => some (c1 ++ c2 ++ [0 ≤ l, l ≤ H], .sl i off l.toNat m (H - l.toNat) (M - l.toNat))
            | _ => none
          | none => none
        | none => none
      else none
    | none => none
  | _, _ => none
def evO (sl : Slots) : Option Operand → Option (List Prop × Option SV)
  | none => some ([], none)
  | some x => match evs sl x with
    | some (cs, v) => some (cs, some v)
    | none => none

def lenV (P : Program) (t : TypeId) (x : SV) : Option SV :=
  match P.underlying t, x with
  | some (.slice _), .sl _ _ _ _ len _ => some (.int .i64 len)
  | some (.slice _), .sq _ _ _ _ len _ => some (.int .i64 len)
  | some (.slice _), .nilsl => some (.int .i64 0)
  | some (.array n _), _ => some (.int .i64 n)
  | some .string, .str s => some (.int .i64 s.size)
  | some (.map _ _), .nilmp => some (.int .i64 0)
  | _, _ => none
def minV (mx : Bool) : SV → List SV → Option SV
  | .int k a, [] => some (.int k a)
  | .int k a, .int k' b :: r => bif keq k k' then minV mx (.int k (bif mx then max a b else min a b)) r else none
  | _, _ => none

/-- More operations that only give a value. -/
def quiet2 (P : Program) (sl : Slots) : Op → Option (List Prop × SV)
  | .makeFunc fn a c => match evList sl a.toList, evList sl c.toList with
    | some (cs, la), some (ds, lc) => some (cs ++ ds, .clo fn la lc)
    | _, _ => none
  | .build t parts => match evParts sl parts.toList with
    | some (cs, l) => match buildV P t l with
      | some r => some (cs, .agg r)
      | none => none
    | none => none
  | .slice t x lo hi mx => match evs sl x, evO sl lo, evO sl hi, evO sl mx with
    | some (c0, x), some (c1, lo), some (c2, hi), some (c3, mx) => match sliceV P t x lo hi mx with
      | some (c4, v) => some (c0 ++ c1 ++ c2 ++ c3 ++ c4, v)
      | none => none
    | _, _, _, _ => none
  | .makeInterface t x => match P.underlying t, evs sl x with
    | some (.interface _), _ => none
    | some _, some (cs, v) => some (cs, .ifc t v)
    | _, _ => none
  | .call { callee := .builtin .len, args := as, argTypes := ts } => match ts.toList, evList sl as.toList with
    | [t], some (cs, [x]) => match lenV P t x with
      | some v => some (cs, v)
      | none => none
    | _, _ => none
  | .call { callee := .builtin .min, args := as, argTypes := _ } => match evList sl as.toList with
    | some (cs, x :: r) => match minV false x r with
      | some v => some (cs, v)
      | none => none
    | _ => none
  | .call { callee := .builtin .max, args := as, argTypes := _ } => match evList sl as.toList with
    | some (cs, x :: r) => match minV true x r with
      | some v => some (cs, v)
      | none => none
    | _ => none
  | _ => none

/-- The operations that make memory: the new block is known as the i-th. -/
def fresh1 (P : Program) (sl : Slots) (i : Nat) : Op → Option (List Prop × SV × SO)
  | .alloc t => match zeroCellsIn P t with
    | some z => forceL z fun z => some ([], .ptr i 0, .cells z t)
    | none => none
  | .box t x => match evs sl x with
    | some (cs, v) => bif v.cells.all storable then forceL v.cells fun l => some (cs, .ptr i 0, .cells l t) else none
    | none => none
  | .buildSlice t len parts => match P.underlying t, evParts sl parts.toList with
    | some (.slice el), some (cs, l) => match sizeIn P el, zeroCellsIn P el with
      | some sz, some z => natF sz fun sz => bif Nat.beq z.length sz && Nat.ble (len * sz) 1024 then
          match sfill (fun i => some (i * sz, sz)) ((List.replicate len z).flatten) l with
          | some r => forceL r fun r => some (cs, .sq i 0 0 sz len .own, .cells r el)
          | none => none
        else none
      | _, _ => none
    | _, _ => none
  | .makeMap _ none => some ([], .mp i, .obj (.map #[] 0))
  | .makeSlice t len cap => match P.underlying t with
    | some (.slice el) => match P.info? el with
      | some inf => match zeroCellsIn P el, evs sl len, evs sl cap with
        | some z, some (cs, .int _ n), some (ds, .int _ c) => bif Nat.beq z.length inf.size && Nat.ble 1 inf.size then
            natF inf.size fun sz => natF inf.bytes fun by_ => some (cs ++ ds ++ [0 ≤ n, n = c, n ≤ 9223372036854775807, (by_ : Int) * n ≤ 281474976710656], .sq i 0 0 sz n.toNat .own, .row 0 n.toNat n.toNat sz (fun _ k => z.getD k .und) el)
          else none
        | _, _, _ => none
      | none => none
    | _ => none
  | _ => none
/-- The operations that write memory. -/
def store1 (P : Program) (sl : Slots) (hp : Hp) : Op → Option (List Prop × Nat × SO)
  | .store t a x => match evs sl a, evs sl x with
    | some (cs, a), some (ds, v) => match store P hp t a v with
      | some (es, i, so) => some (cs ++ ds ++ es, i, so)
      | none => none
    | _, _ => none
  | _ => none
def loud (P : Program) (sl : Slots) (hp ro : Hp) (nx : Nat) (op : Op) : Option Res :=
  match fresh1 P sl nx op with
  | some (cs, v, so) => some ⟨some v, (nx, so) :: hp, nx + 1, cs⟩
  | none => match store1 P sl hp op with
    | some (cs, i, so) => match hset i so hp with
      | some hp' => some ⟨none, hp', nx, cs⟩
      | none => none
    | none => match appOp P sl hp ro op with
      | some (cs, ⟨ks, n, m, sz, f, e⟩) => hdrop ks hp fun r => some ⟨some (.sq nx 0 0 sz (n + m) .own), (nx, .row 0 (n + m) (n + m) sz f e) :: r, nx + 1, cs⟩
      | none => none

/- What follows: they follow the model's. -/

theorem evList_rel {β : Env} {sl : Slots} {ρ : Operand → Value} (hr : Rho β sl ρ) : ∀ {xs : List Operand} {cs : List Prop} {l : List SV}, evList sl xs = some (cs, l) → All cs → RelL β l (xs.map ρ)
  | [], cs, l, h, hc => by simp only [evList, Option.some.injEq, Prod.mk.injEq] at h; obtain ⟨rfl, rfl⟩ := h; simp [RelL]
  | x :: r, cs, l, h, hc => by
    simp only [evList] at h
    split at h
    · rename_i e1 e2
      simp only [Option.some.injEq, Prod.mk.injEq] at h
      obtain ⟨rfl, rfl⟩ := h
      exact ⟨_, _, rfl, evs_rel hr e1 hc.left, evList_rel hr e2 hc.right⟩
    · cases h
def RelP (β : Env) : List (Nat × SV) → List (Nat × Value) → Prop
  | [], us => us = []
  | (i, s) :: ss, us => ∃ v vs, us = (i, v) :: vs ∧ Rel β s v ∧ RelP β ss vs
theorem evParts_rel {β : Env} {sl : Slots} {ρ : Operand → Value} (hr : Rho β sl ρ) : ∀ {xs : List (Nat × Operand)} {cs : List Prop} {l : List (Nat × SV)}, evParts sl xs = some (cs, l) → All cs →
    RelP β l (xs.map fun (i, x) => (i, ρ x))
  | [], cs, l, h, hc => by simp only [evParts, Option.some.injEq, Prod.mk.injEq] at h; obtain ⟨rfl, rfl⟩ := h; simp [RelP]
  | (i, x) :: r, cs, l, h, hc => by
    simp only [evParts] at h
    split at h
    · rename_i e1 e2
      simp only [Option.some.injEq, Prod.mk.injEq] at h
      obtain ⟨rfl, rfl⟩ := h
      exact ⟨_, _, rfl, evs_rel hr e1 hc.left, evParts_rel hr e2 hc.right⟩
    · cases h

theorem foldl_set : ∀ (vs : List Value) (off j : Nat) (cells : Array Value), off + j + vs.length ≤ cells.size →
    ((vs.zipIdx j).foldl (fun cs (c, j) => cs.setIfInBounds (off + j) c) cells).toList = cells.toList.take (off + j) ++ vs ++ cells.toList.drop (off + j + vs.length)
  | [], off, j, cells, h => by simp
  | v :: vs, off, j, cells, h => by
    simp only [List.zipIdx_cons, List.foldl_cons]
    rw [foldl_set vs off (j + 1) _ (by simp at h ⊢; omega)]
    simp only [Array.toList_setIfInBounds]
    simp at h
    apply List.ext_getElem?
    intro n
    simp only [List.getElem?_append, List.length_append, List.length_take, List.length_set, List.getElem?_take, List.getElem?_drop, List.getElem?_set, Array.length_toList, List.length_cons]
    have e1 : min (off + (j + 1)) cells.size = off + j + 1 := by omega
    have e2 : min (off + j) cells.size = off + j := by omega
    rw [e1, e2]
    by_cases h1 : n < off + j
    · rw [if_pos (by omega), if_pos (by omega), if_pos (by omega), if_neg (by omega), if_pos (by omega), if_pos (by omega), if_pos (by omega)]
    · by_cases h2 : n = off + j
      · subst h2
        rw [if_pos (by omega), if_pos (by omega), if_pos (by omega), if_pos rfl, if_pos (by simpa using (by omega : off + j < cells.size)), if_pos (by omega), if_neg (by omega)]
        simp
      · by_cases h3 : n < off + j + 1 + vs.length
        · rw [if_pos (by omega), if_neg (by omega), if_pos (by omega), if_neg (by omega)]
          rw [show n - (off + j) = (n - (off + j + 1)) + 1 by omega, List.getElem?_cons_succ]
        · rw [if_neg (by omega), if_neg (by omega), if_neg (by omega)]
          congr 1
          omega

theorem sfill_len {place : Nat → Option (Nat × Nat)} : ∀ {parts : List (Nat × SV)} {cells r : List SV}, sfill place cells parts = some r → r.length = cells.length
  | [], cells, r, h => by injection h with h; subst h; rfl
  | (i, v) :: rest, cells, r, h => by
    simp only [sfill] at h
    split at h
    · rename_i off size hpl
      cases hb : (Nat.beq v.cells.length size && v.cells.all storable) with
      | false => rw [hb] at h; cases h
      | true =>
        rw [hb] at h
        simp only [cond_true] at h
        split at h
        · rename_i r' hset
          obtain ⟨rfl, hle⟩ := setAt_spec hset
          rw [sfill_len h]
          simp; omega
        · cases h
    · cases h
theorem sfill_rel {β : Env} {place : Nat → Option (Nat × Nat)} : ∀ {parts : List (Nat × SV)} {cells r : List SV}, sfill place cells parts = some r → ∀ {us : List Value}, RelL β cells us → ∀ {ps : List (Nat × Value)}, RelP β parts ps →
    ∃ c : Array Value, Instr.fill place us.toArray ps = some c ∧ RelL β r c.toList
  | [], cells, r, h, us, hu, ps, hp => by
    simp only [RelP] at hp; subst hp
    injection h with h; subst h
    exact ⟨us.toArray, rfl, by simpa using hu⟩
  | (i, v) :: rest, cells, r, h, us, hu, ps, hp => by
    obtain ⟨x, xs, rfl, hx, hxs⟩ := hp
    simp only [sfill] at h
    split at h
    · rename_i off size hpl
      cases hb : (Nat.beq v.cells.length size && v.cells.all storable) with
      | false => rw [hb] at h; cases h
      | true =>
        rw [hb] at h
        simp only [cond_true] at h
        simp only [Bool.and_eq_true] at hb
        have hlen := beq_nat hb.1
        split at h
        · rename_i r' hset
          obtain ⟨rfl, hle⟩ := setAt_spec hset
          have hns : (∀ g y, v ≠ .cnd g y) ∧ v ≠ .und := by
            constructor
            · rintro g y rfl; simp [SV.cells, storable] at hb
            · rintro rfl; simp [SV.cells, storable] at hb
          have hcl := cells_rel hx hns.1 hns.2
          have hcs := hcl.length
          have hul := hu.length
          have hfold := foldl_set x.cells.toList off 0 us.toArray (by simp at hcs ⊢; omega)
          have hrel : RelL β (cells.take off ++ v.cells ++ cells.drop (off + v.cells.length)) ((x.cells.zipIdx.foldl (fun cs (c, j) => cs.setIfInBounds (off + j) c) us.toArray)).toList := by
            have e : (x.cells.zipIdx.foldl (fun cs (c, j) => cs.setIfInBounds (off + j) c) us.toArray) = ((x.cells.toList.zipIdx 0).foldl (fun cs (c, j) => cs.setIfInBounds (off + j) c) us.toArray) := by
              rw [← Array.foldl_toList, Array.toList_zipIdx]
            rw [e, hfold]
            simp only [Nat.add_zero, List.toList_toArray]
            rw [hcs]
            exact ((hu.take _).append hcl).append (hu.drop _)
          obtain ⟨c, hc1, hc2⟩ := sfill_rel h hrel hxs
          refine ⟨c, ?_, hc2⟩
          simp only [Instr.fill, hpl]
          rw [if_neg ?_]
          · simpa using hc1
          · simp at hcs ⊢; omega
        · cases h
    · cases h
end Sx
