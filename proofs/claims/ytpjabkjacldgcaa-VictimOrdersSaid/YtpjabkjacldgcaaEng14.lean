/- A region that draws its order: a block of operations that do not disturb one another, in whatever order. Definitions, and the plain part. No condition. -/
import Derived.Test.YtpjabkjacldgcaaEng13
namespace Sx
open Go

def predsOf : List Edge → List Nat
  | [] => []
  | e :: r => bif Region.binds .any e then e.on :: predsOf r else predsOf r
theorem predsOf_mem {l : List Edge} {i : Nat} : i ∈ predsOf l ↔ ∃ e ∈ l, Region.binds .any e = true ∧ e.on = i := by
  induction l with
  | nil => simp [predsOf]
  | cons e r ih =>
    simp only [predsOf]
    cases hb : Region.binds .any e with
    | true => simp only [cond_true, List.mem_cons, ih]; constructor
              · rintro (rfl | ⟨e', h1, h2⟩)
                · exact ⟨e, .inl rfl, hb, rfl⟩
                · exact ⟨e', .inr h1, h2⟩
              · rintro ⟨e', (rfl | h1), h2, h3⟩
                · exact .inl h3.symm
                · exact .inr ⟨e', h1, h2, h3⟩
    | false => simp only [cond_false, List.mem_cons, ih]; constructor
               · rintro ⟨e', h1, h2⟩; exact ⟨e', .inr h1, h2⟩
               · rintro ⟨e', (rfl | h1), h2, h3⟩
                 · rw [hb] at h2; cases h2
                 · exact ⟨e', h1, h2, h3⟩

def insN (p : Nat) (l : List Nat) : List Nat := bif hasN p l then l else p :: l
def uniN : List Nat → List Nat → List Nat
  | [], b => b
  | p :: a, b => match uniN a b with
    | [] => insN p []
    | q :: r => insN p (q :: r)
theorem hasN_mem {i : Nat} {l : List Nat} : hasN i l = true ↔ i ∈ l := hasN_iff
theorem insN_mem {i p : Nat} {l : List Nat} : i ∈ insN p l ↔ i = p ∨ i ∈ l := by
  unfold insN
  cases hb : hasN p l with
  | true => have := hasN_mem.1 hb; simp only [cond_true]; constructor
            · exact .inr
            · rintro (rfl | h)
              · exact this
              · exact h
  | false => simp
theorem uniN_mem {i : Nat} : ∀ {a b : List Nat}, i ∈ uniN a b ↔ i ∈ a ∨ i ∈ b
  | [], b => by simp [uniN]
  | p :: a, b => by
    have ih := uniN_mem (i := i) (a := a) (b := b)
    simp only [uniN]
    split
    · rename_i e; rw [e] at ih; simp only [insN_mem, List.mem_cons]; simp at ih; simp [ih]
    · rename_i q r e; rw [e] at ih; rw [insN_mem, ih, List.mem_cons, or_assoc]

def nthL : List (List Nat) → Nat → Option (List Nat)
  | [], _ => none
  | a :: _, 0 => some a
  | _ :: l, n + 1 => nthL l n
theorem nthL_get : ∀ (l : List (List Nat)) (n : Nat), nthL l n = l[n]?
  | [], n => by simp [nthL]
  | a :: l, 0 => by simp [nthL]
  | a :: l, n + 1 => by simp [nthL, nthL_get l n]
def rowT (acc : List (List Nat)) : List Nat → Option (List Nat)
  | [] => some []
  | p :: ps => match nthL acc p, rowT acc ps with
    | some l, some r => match uniN (p :: l) r with
      | [] => none
      | a :: s => some (a :: s)
    | _, _ => none
def snocL : List (List Nat) → List Nat → Option (List (List Nat))
  | [], x => some [x]
  | a :: l, x => match snocL l x with
    | some r => some (a :: r)
    | none => none
/-- What each operation waits for, in one step or more. -/
def closeGo (acc : List (List Nat)) : List Oper → Option (List (List Nat))
  | [] => some acc
  | o :: r => match rowT acc (predsOf o.after.toList) with
    | some l => match snocL acc l with
      | some acc' => closeGo acc' r
      | none => none
    | none => none

theorem rowT_spec {acc : List (List Nat)} : ∀ {ps l : List Nat}, rowT acc ps = some l → (∀ p ∈ ps, p < acc.length) ∧ ∀ i, i ∈ l → i ∈ ps ∨ ∃ p ∈ ps, ∃ q, acc[p]? = some q ∧ i ∈ q
  | [], l, h => by injection h with h; subst h; simp
  | p :: ps, l, h => by
    simp only [rowT] at h
    split at h <;> first | exact (none_ne h).elim | skip
    rename_i q r e1 e2
    split at h <;> first | exact (none_ne h).elim | skip
    rename_i a s e3
    injection h with h; subst h
    rw [nthL_get] at e1
    obtain ⟨h1, h2⟩ := rowT_spec e2
    refine ⟨?_, fun i hi => ?_⟩
    · intro x hx
      cases hx with
      | head => exact (List.getElem?_eq_some_iff.1 e1).1
      | tail _ hm => exact h1 x hm
    · rw [← e3, uniN_mem] at hi
      rcases hi with hi | hi
      · cases hi with
        | head => exact .inl (List.mem_cons_self ..)
        | tail _ hm => exact .inr ⟨p, List.mem_cons_self .., q, e1, hm⟩
      · rcases h2 i hi with h | ⟨x, h3, y, h4⟩
        · exact .inl (List.mem_cons_of_mem _ h)
        · exact .inr ⟨x, List.mem_cons_of_mem _ h3, y, h4⟩
theorem snocL_spec : ∀ {l : List (List Nat)} {x : List Nat} {r : List (List Nat)}, snocL l x = some r → r = l ++ [x]
  | [], x, r, h => by injection h with h; exact h.symm
  | a :: l, x, r, h => by
    simp only [snocL] at h
    split at h <;> first | exact (none_ne h).elim | skip
    rename_i r' e
    injection h with h; subst h
    rw [snocL_spec e]; rfl
theorem closeGo_spec : ∀ {os : List Oper} {acc T : List (List Nat)}, closeGo acc os = some T → (∀ j, j < acc.length → T[j]? = acc[j]?) ∧
    ∀ (j : Nat) (o : Oper), os[j]? = some o → ∃ l, T[acc.length + j]? = some l ∧ (∀ p ∈ predsOf o.after.toList, p < acc.length + j) ∧ ∀ i, i ∈ l → i ∈ predsOf o.after.toList ∨ ∃ p ∈ predsOf o.after.toList, ∃ q, T[p]? = some q ∧ i ∈ q
  | [], acc, T, h => by injection h with h; subst h; exact ⟨fun _ _ => rfl, fun j o hj => by simp at hj⟩
  | o :: os, acc, T, h => by
    simp only [closeGo] at h
    split at h <;> first | exact (none_ne h).elim | skip
    rename_i l e1
    split at h <;> first | exact (none_ne h).elim | skip
    rename_i acc' e2
    have e2 := snocL_spec e2
    subst e2
    obtain ⟨h1, h2⟩ := closeGo_spec h
    obtain ⟨r1, r2⟩ := rowT_spec e1
    refine ⟨fun j hj => ?_, fun j o' hj => ?_⟩
    · rw [h1 j (by simp; omega), List.getElem?_append_left hj]
    · cases j with
      | zero =>
        simp at hj; subst hj
        refine ⟨l, ?_, fun p hp => by simpa using r1 p hp, fun i hi => ?_⟩
        · rw [Nat.add_zero, h1 acc.length (by simp)]; simp
        · rcases r2 i hi with h | ⟨p, h3, q, h4, h5⟩
          · exact .inl h
          · refine .inr ⟨p, h3, q, ?_, h5⟩
            have := r1 p h3
            rw [h1 p (by simp; omega), List.getElem?_append_left this]; exact h4
      | succ j =>
        have := h2 j o' (by simpa using hj)
        simp only [List.length_append, List.length_cons, List.length_nil] at this
        rw [show acc.length + (j + 1) = acc.length + 1 + j by omega]
        simpa using this

/-- The facts of the table. -/
structure TOk (ops : Array Oper) (T : List (List Nat)) : Prop where
  row : ∀ (j : Nat) (o : Oper), ops[j]? = some o → ∃ l, T[j]? = some l ∧ (∀ p ∈ predsOf o.after.toList, p < j) ∧
    ∀ i, i ∈ l → i ∈ predsOf o.after.toList ∨ ∃ p ∈ predsOf o.after.toList, ∃ q, T[p]? = some q ∧ i ∈ q
theorem tok_of {ops : Array Oper} {T : List (List Nat)} (h : closeGo [] ops.toList = some T) : TOk ops T :=
  ⟨fun j o hj => by have := (closeGo_spec h).2 j o (by simpa using hj); simpa using this⟩

def inT (T : List (List Nat)) (i j : Nat) : Bool := match nthL T j with
  | some l => hasN i l
  | none => false
theorem inT_spec {T : List (List Nat)} {i j : Nat} : inT T i j = true ↔ ∃ l, T[j]? = some l ∧ i ∈ l := by
  unfold inT
  rw [nthL_get]
  cases h : T[j]? with
  | none => simp
  | some l => simp [hasN_mem]

/-- What one operation of a block reads, writes and gives. -/
structure DR where
  rs : List Nat
  dst : Option Nat
  rh : List Nat
  wh : Option (Nat × SO)
  dl : List Nat
  v : SV

def tmpsOf : List Operand → List Nat
  | [] => []
  | .tmp t :: r => t :: tmpsOf r
  | _ :: r => tmpsOf r
def opSlots (ops : Array Oper) (o : Oper) : List Nat :=
  match o.guard with
  | none => tmpsOf o.op.operands.toList
  | some (j, _) => match (ops[j]?).bind (·.dst) with
    | some t => t :: tmpsOf o.op.operands.toList
    | none => tmpsOf o.op.operands.toList
def touchOf (sl : Slots) (x : Operand) : List Nat :=
  match evs sl x with
  | some (_, a) => match oplace a with
    | some (i, _, _, _, _) => [i]
    | none => []
  | none => []
def touchL (sl : Slots) : List Operand → List Nat
  | [] => []
  | x :: r => match evs sl x with
    | some (_, .sq i _ _ _ _ _) => i :: touchL sl r
    | some (_, .sl i _ _ _ _ _) => i :: touchL sl r
    | _ => touchL sl r
def allIn (l : List Nat) : List Nat → Bool
  | [] => true
  | i :: r => hasN i l && allIn l r
def touch (sl : Slots) : Op → List Nat
  | .load _ x => touchOf sl x
  | .store _ a _ => touchOf sl a
  | .call { callee := .builtin .append, args := as, argTypes := _ } => touchL sl as.toList
  | _ => []
def thinH (k : List Nat) : Hp → Option Hp
  | [] => some []
  | (i, v) :: r => match thinH k r with
    | some r' => bif hasN i k then some ((i, v) :: r') else some r'
    | none => none
def hdel (i : Nat) : Hp → Option Hp
  | [] => some []
  | (j, v) :: r => match hdel i r with
    | some r' => bif Nat.beq i j then some r' else some ((j, v) :: r')
    | none => none
def dop (P : Program) (M : Mode) (ro : Hp) (ops : Array Oper) (idn : Nat) (o : Oper) (sl : Slots) (hp : Hp) : Option (List Prop × DR) :=
  match opSlots ops o with
  | rs => match thin rs sl with
    | none => none
    | some slv => match touch slv o.op with
      | rh => match thinH rh hp with
        | none => none
        | some hpv => match guardIn ops slv o with
          | none => none
          | some .pass => some ([], ⟨rs, o.dst, rh, none, [], .und⟩)
          | some (.may g) => match quietAll P M.st slv hpv ro o.op with
            | some (cs, v) => some (cs.map (fun p => g = true → p), ⟨rs, o.dst, rh, none, [], .cnd g v⟩)
            | none => match callee P slv o.op with
              | some (cs, f, _, _, xs) => match M.sum f xs with
                | some (ds, v) => some ((cs ++ ds).map (fun p => g = true → p), ⟨rs, o.dst, rh, none, [], .cnd g v⟩)
                | none => none
              | none => none
          | some .run => match quietAll P M.st slv hpv ro o.op with
            | some (cs, v) => some (cs, ⟨rs, o.dst, rh, none, [], v⟩)
            | none => match fresh1 P slv idn o.op with
              | some (cs, v, so) => some (cs, ⟨rs, o.dst, rh, some (idn, so), [], v⟩)
              | none => match store1 P slv hpv o.op with
                | some (cs, i, so) => bif hasN i rh then some (cs, ⟨rs, o.dst, rh, some (i, so), [], .und⟩) else none
                | none => match appOp P slv hpv ro o.op with
                  | some (cs, ⟨ks, n, m, sz, f, e⟩) => bif allIn rh ks then some (cs, ⟨rs, o.dst, rh, some (idn, .row 0 (n + m) (n + m) sz f e), ks, .sq idn 0 0 sz (n + m) .own⟩) else none
                  | none => match callee P slv o.op with
                    | some (cs, f, _, _, xs) => match M.sum f xs with
                      | some (ds, v) => some (cs ++ ds, ⟨rs, o.dst, rh, none, [], v⟩)
                      | none => none
                    | none => none
def hput : Option (Nat × SO) → Hp → Option Hp
  | none, hp => some hp
  | some (i, so), hp => match hdel i hp with
    | some r => some ((i, so) :: r)
    | none => none

/-- The blocks after an operation. -/
def hmod (d : DR) (hp : Hp) : Option Hp :=
  match d.dl with
  | [] => hput d.wh hp
  | k :: ks => hdrop (k :: ks) hp fun r => hput d.wh r
/-- The names that it takes away or writes. -/
def DR.mod (d : DR) : List Nat :=
  match d.wh with
  | some (i, _) => i :: d.dl
  | none => d.dl

/-- A block, in the text's order. -/
def dblk (P : Program) (M : Mode) (ro : Hp) (ops : Array Oper) (n : Nat) : List Oper → (idn : Nat) → Slots → Hp → List Prop → Option (List Prop × Slots × Hp × List DR)
  | [], _, sl, hp, acc => some (acc, sl, hp, [])
  | o :: r, idn, sl, hp, acc => match dop P M ro ops idn o sl hp with
    | none => none
    | some (cs, d) => match put o.dst d.v n sl with
      | none => none
      | some sl' => match hmod d hp with
        | none => none
        | some hp' => match pushAll cs acc with
          | [] => match natF (idn + 1) fun idn' => dblk P M ro ops n r idn' sl' hp' [] with
            | some (ds, sl2, hp2, l) => some (ds, sl2, hp2, d :: l)
            | none => none
          | p :: ps => match natF (idn + 1) fun idn' => dblk P M ro ops n r idn' sl' hp' (p :: ps) with
            | some (ds, sl2, hp2, l) => some (ds, sl2, hp2, d :: l)
            | none => none

def disj1 (x : Option Nat) (l : List Nat) (y : Option Nat) : Bool :=
  match x with
  | none => true
  | some i => !hasN i l && (match y with
    | none => true
    | some j => !Nat.beq i j)
def disjL (b : List Nat) : List Nat → Bool
  | [] => true
  | i :: r => !hasN i b && disjL b r
/-- Two operations that may change places. -/
def indep (a b : DR) : Bool := disj1 a.dst b.rs b.dst && disj1 b.dst a.rs none && disjL b.rh a.mod && disjL b.mod a.mod && disjL a.rh b.mod
def indepRow (T : List (List Nat)) (i : Nat) (a : DR) : (j : Nat) → List DR → Bool
  | _, [] => true
  | j, b :: r => (inT T i j || indep a b) && indepRow T i a (j + 1) r
def indepAll (T : List (List Nat)) : (i : Nat) → List DR → Bool
  | _, [] => true
  | i, a :: r => indepRow T i a (i + 1) r && indepAll T (i + 1) r
def barRow (T : List (List Nat)) (j : Nat) : (i c : Nat) → Bool
  | _, 0 => true
  | i, c + 1 => inT T i j && barRow T j (i + 1) c
/-- All operations from j on (c of them) wait for the whole block of b operations from m on. -/
def barAll (T : List (List Nat)) (m b : Nat) : (j c : Nat) → Bool
  | _, 0 => true
  | j, c + 1 => barRow T j m b && barAll T m b (j + 1) c
end Sx
