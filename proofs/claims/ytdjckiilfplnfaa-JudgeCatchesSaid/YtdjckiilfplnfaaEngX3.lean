/- The symbolic machine, part 3: what its steps give, proved against the model. Conditions: as each theorem says. -/
import Derived.Test.YtdjckiilfplnfaaEngX2
import Derived.Orders
import Derived.RangeFuncLeaves
import Derived.RangeFuncRecord
set_option linter.unusedSimpArgs false
set_option linter.unusedVariables false
section
namespace Sx
open Go

def predsOf : List Edge → List Nat
  | [] => []
  | e :: r => bif Region.binds .any e then e.on :: predsOf r else predsOf r
theorem predsOf_mem {l : List Edge} {i : Nat} : i ∈ predsOf l ↔ ∃ e ∈ l, Region.binds .any e = true ∧ e.on = i := by
  induction l with
  | nil => simp [predsOf]
  | cons e r ih =>
    simp only [predsOf]
    cases hb : Region.binds .any e with
    | true => simp only [cond_true, List.mem_cons, ih]; constructor
              · rintro (rfl | ⟨e', h1, h2⟩)
                · exact ⟨e, .inl rfl, hb, rfl⟩
                · exact ⟨e', .inr h1, h2⟩
              · rintro ⟨e', (rfl | h1), h2, h3⟩
                · exact .inl h3.symm
                · exact .inr ⟨e', h1, h2, h3⟩
    | false => simp only [cond_false, List.mem_cons, ih]; constructor
               · rintro ⟨e', h1, h2⟩; exact ⟨e', .inr h1, h2⟩
               · rintro ⟨e', (rfl | h1), h2, h3⟩
                 · rw [hb] at h2; cases h2
                 · exact ⟨e', h1, h2, h3⟩

def insN (p : Nat) (l : List Nat) : List Nat := bif hasN p l then l else p :: l
def uniN : List Nat → List Nat → List Nat
  | [], b => b
  | p :: a, b => match uniN a b with
    | [] => insN p []
    | q :: r => insN p (q :: r)
theorem hasN_mem {i : Nat} {l : List Nat} : hasN i l = true ↔ i ∈ l := hasN_iff
theorem insN_mem {i p : Nat} {l : List Nat} : i ∈ insN p l ↔ i = p ∨ i ∈ l := by
  unfold insN
  cases hb : hasN p l with
  | true => have := hasN_mem.1 hb; simp only [cond_true]; constructor
            · exact .inr
            · rintro (rfl | h)
              · exact this
              · exact h
  | false => simp
theorem uniN_mem {i : Nat} : ∀ {a b : List Nat}, i ∈ uniN a b ↔ i ∈ a ∨ i ∈ b
  | [], b => by simp [uniN]
  | p :: a, b => by
    have ih := uniN_mem (i := i) (a := a) (b := b)
    simp only [uniN]
    split
    · rename_i e; rw [e] at ih; simp only [insN_mem, List.mem_cons]; simp at ih; simp [ih]
    · rename_i q r e; rw [e] at ih; rw [insN_mem, ih, List.mem_cons, or_assoc]

def nthL : List (List Nat) → Nat → Option (List Nat)
  | [], _ => none
  | a :: _, 0 => some a
  | _ :: l, n + 1 => nthL l n
theorem nthL_get : ∀ (l : List (List Nat)) (n : Nat), nthL l n = l[n]?
  | [], n => by simp [nthL]
  | a :: l, 0 => by simp [nthL]
  | a :: l, n + 1 => by simp [nthL, nthL_get l n]
def rowT (acc : List (List Nat)) : List Nat → Option (List Nat)
  | [] => some []
  | p :: ps => match nthL acc p, rowT acc ps with
    | some l, some r => match uniN (p :: l) r with
      | [] => none
      | a :: s => some (a :: s)
    | _, _ => none
def snocL : List (List Nat) → List Nat → Option (List (List Nat))
  | [], x => some [x]
  | a :: l, x => match snocL l x with
    | some r => some (a :: r)
    | none => none
/-- What each operation waits for, in one step or more. -/
def closeGo (acc : List (List Nat)) : List Oper → Option (List (List Nat))
  | [] => some acc
  | o :: r => match rowT acc (predsOf o.after.toList) with
    | some l => match snocL acc l with
      | some acc' => closeGo acc' r
      | none => none
    | none => none

theorem rowT_spec {acc : List (List Nat)} : ∀ {ps l : List Nat}, rowT acc ps = some l → (∀ p ∈ ps, p < acc.length) ∧ ∀ i, i ∈ l → i ∈ ps ∨ ∃ p ∈ ps, ∃ q, acc[p]? = some q ∧ i ∈ q
  | [], l, h => by injection h with h; subst h; simp
  | p :: ps, l, h => by
    simp only [rowT] at h
    split at h <;> first | exact (none_ne h).elim | skip
    rename_i q r e1 e2
    split at h <;> first | exact (none_ne h).elim | skip
    rename_i a s e3
    injection h with h; subst h
    rw [nthL_get] at e1
    obtain ⟨h1, h2⟩ := rowT_spec e2
    refine ⟨?_, fun i hi => ?_⟩
    · intro x hx
      cases hx with
      | head => exact (List.getElem?_eq_some_iff.1 e1).1
      | tail _ hm => exact h1 x hm
    · rw [← e3, uniN_mem] at hi
      rcases hi with hi | hi
      · cases hi with
        | head => exact .inl (List.mem_cons_self ..)
        | tail _ hm => exact .inr ⟨p, List.mem_cons_self .., q, e1, hm⟩
      · rcases h2 i hi with h | ⟨x, h3, y, h4⟩
        · exact .inl (List.mem_cons_of_mem _ h)
        · exact .inr ⟨x, List.mem_cons_of_mem _ h3, y, h4⟩
theorem snocL_spec : ∀ {l : List (List Nat)} {x : List Nat} {r : List (List Nat)}, snocL l x = some r → r = l ++ [x]
  | [], x, r, h => by injection h with h; exact h.symm
  | a :: l, x, r, h => by
    simp only [snocL] at h
    split at h <;> first | exact (none_ne h).elim | skip
    rename_i r' e
    injection h with h; subst h
    rw [snocL_spec e]; rfl
theorem closeGo_spec : ∀ {os : List Oper} {acc T : List (List Nat)}, closeGo acc os = some T → (∀ j, j < acc.length → T[j]? = acc[j]?) ∧
    ∀ (j : Nat) (o : Oper), os[j]? = some o → ∃ l, T[acc.length + j]? = some l ∧ (∀ p ∈ predsOf o.after.toList, p < acc.length + j) ∧ ∀ i, i ∈ l → i ∈ predsOf o.after.toList ∨ ∃ p ∈ predsOf o.after.toList, ∃ q, T[p]? = some q ∧ i ∈ q
  | [], acc, T, h => by injection h with h; subst h; exact ⟨fun _ _ => rfl, fun j o hj => by simp at hj⟩
  | o :: os, acc, T, h => by
    simp only [closeGo] at h
    split at h <;> first | exact (none_ne h).elim | skip
    rename_i l e1
    split at h <;> first | exact (none_ne h).elim | skip
    rename_i acc' e2
    have e2 := snocL_spec e2
    subst e2
    obtain ⟨h1, h2⟩ := closeGo_spec h
    obtain ⟨r1, r2⟩ := rowT_spec e1
    refine ⟨fun j hj => ?_, fun j o' hj => ?_⟩
    · rw [h1 j (by simp; omega), List.getElem?_append_left hj]
    · cases j with
      | zero =>
        simp at hj; subst hj
        refine ⟨l, ?_, fun p hp => by simpa using r1 p hp, fun i hi => ?_⟩
        · rw [Nat.add_zero, h1 acc.length (by simp)]; simp
        · rcases r2 i hi with h | ⟨p, h3, q, h4, h5⟩
          · exact .inl h
          · refine .inr ⟨p, h3, q, ?_, h5⟩
            have := r1 p h3
            rw [h1 p (by simp; omega), List.getElem?_append_left this]; exact h4
      | succ j =>
        have := h2 j o' (by simpa using hj)
        simp only [List.length_append, List.length_cons, List.length_nil] at this
        rw [show acc.length + (j + 1) = acc.length + 1 + j by omega]
        simpa using this

/-- The facts of the table. -/
structure TOk (ops : Array Oper) (T : List (List Nat)) : Prop where
  row : ∀ (j : Nat) (o : Oper), ops[j]? = some o → ∃ l, T[j]? = some l ∧ (∀ p ∈ predsOf o.after.toList, p < j) ∧
    ∀ i, i ∈ l → i ∈ predsOf o.after.toList ∨ ∃ p ∈ predsOf o.after.toList, ∃ q, T[p]? = some q ∧ i ∈ q
theorem tok_of {ops : Array Oper} {T : List (List Nat)} (h : closeGo [] ops.toList = some T) : TOk ops T :=
  ⟨fun j o hj => by have := (closeGo_spec h).2 j o (by simpa using hj); simpa using this⟩

def inT (T : List (List Nat)) (i j : Nat) : Bool := match nthL T j with
  | some l => hasN i l
  | none => false
theorem inT_spec {T : List (List Nat)} {i j : Nat} : inT T i j = true ↔ ∃ l, T[j]? = some l ∧ i ∈ l := by
  unfold inT
  rw [nthL_get]
  cases h : T[j]? with
  | none => simp
  | some l => simp [hasN_mem]

/-- What one operation of a block reads, writes and gives. -/
structure DR where
  rs : List Nat
  dst : Option Nat
  rh : List Nat
  wh : List (Nat × SO)
  dl : List Nat
  v : SV

def tmpsOf : List Operand → List Nat
  | [] => []
  | .tmp t :: r => t :: tmpsOf r
  | _ :: r => tmpsOf r
def opSlots (ops : Array Oper) (o : Oper) : List Nat :=
  match o.guard with
  | none => tmpsOf o.op.operands.toList
  | some (j, _) => match (ops[j]?).bind (·.dst) with
    | some t => t :: tmpsOf o.op.operands.toList
    | none => tmpsOf o.op.operands.toList
def touchOf (sl : Slots) (x : Operand) : List Nat :=
  match evs sl x with
  | some (_, a) => match oplace a with
    | some (i, _, _, _, _) => [i]
    | none => []
  | none => []
def touchL (sl : Slots) : List Operand → List Nat
  | [] => []
  | x :: r => match evs sl x with
    | some (_, .sq i _ _ _ _ _) => i :: touchL sl r
    | some (_, .sl i _ _ _ _ _) => i :: touchL sl r
    | _ => touchL sl r
def allIn (l : List Nat) : List Nat → Bool
  | [] => true
  | i :: r => hasN i l && allIn l r
def touchM (sl : Slots) (x : Operand) : List Nat :=
  match evs sl x with
  | some (_, .mp i) => [i]
  | _ => []
def touch (sl : Slots) : Op → List Nat
  | .load _ x => touchOf sl x
  | .store _ a _ => touchOf sl a
  | .lookup _ m _ _ => touchM sl m
  | .mapUpdate _ m _ _ => touchM sl m
  | .convert _ _ x => touchL sl [x]
  | .call { callee := .builtin .append, args := as, argTypes := _ } => touchL sl as.toList
  | _ => []
def thinH (k : List Nat) : Hp → Option Hp
  | [] => some []
  | (i, v) :: r => match thinH k r with
    | some r' => bif hasN i k then some ((i, v) :: r') else some r'
    | none => none
def hdel (i : Nat) : Hp → Option Hp
  | [] => some []
  | (j, v) :: r => match hdel i r with
    | some r' => bif Nat.beq i j then some r' else some ((j, v) :: r')
    | none => none
def dop (P : Program) (M : Mode) (ro : Hp) (ops : Array Oper) (idn : Nat) (o : Oper) (sl : Slots) (hp : Hp) : Option (List Prop × DR) :=
  match opSlots ops o with
  | rs => match thin rs sl with
    | none => none
    | some slv => match touch slv o.op with
      | rh => match thinH rh hp with
        | none => none
        | some hpv => match guardIn ops slv o with
          | none => none
          | some .pass => some ([], ⟨rs, o.dst, rh, [], [], .und⟩)
          | some (.may g) => match quietAll P M.st slv hpv ro o.op with
            | some (cs, v) => some (cs.map (fun p => g = true → p), ⟨rs, o.dst, rh, [], [], .cnd g v⟩)
            | none => match callee P slv o.op with
              | some (cs, f, _, _, xs) => match M.sum f xs with
                | some (ds, v) => some ((cs ++ ds).map (fun p => g = true → p), ⟨rs, o.dst, rh, [], [], .cnd g v⟩)
                | none => none
              | none => none
          | some .run => match quietAll P M.st slv hpv ro o.op with
            | some (cs, v) => some (cs, ⟨rs, o.dst, rh, [], [], v⟩)
            | none => match fresh1 P slv idn o.op with
              | some (cs, v, so) => some (cs, ⟨rs, o.dst, rh, [(idn, so)], [], v⟩)
              | none => match store1 P slv hpv o.op with
                | some (cs, i, so) => bif hasN i rh then some (cs, ⟨rs, o.dst, rh, [(i, so)], [], .und⟩) else none
                | none => match appOp P slv hpv ro o.op with
                  | some (cs, ⟨ks, n, m, sz, f, e⟩) => bif allIn rh ks then some (cs, ⟨rs, o.dst, rh, [(idn, .row 0 (n + m) (n + m) sz f e)], ks, .sq idn 0 0 sz (n + m) .own⟩) else none
                  | none => match callee P slv o.op with
                    | some (cs, f, _, _, xs) => match M.sum f xs with
                      | some (ds, v) => some (cs ++ ds, ⟨rs, o.dst, rh, [], [], v⟩)
                      | none => none
                    | none => none
def hput : List (Nat × SO) → Hp → Option Hp
  | [], hp => some hp
  | (i, so) :: l, hp => match hput l hp with
    | some h => match hdel i h with
      | some r => some ((i, so) :: r)
      | none => none
    | none => none

/-- The blocks after an operation. -/
def hmod (d : DR) (hp : Hp) : Option Hp :=
  match d.dl with
  | [] => hput d.wh hp
  | k :: ks => hdrop (k :: ks) hp fun r => hput d.wh r
/-- The names that it takes away or writes. -/
def wkeys (dl : List Nat) : List (Nat × SO) → List Nat
  | [] => dl
  | (i, _) :: r => i :: wkeys dl r
def DR.mod (d : DR) : List Nat := wkeys d.dl d.wh

/-- A block, in the text's order. -/
def dblk (P : Program) (M : Mode) (ro : Hp) (ops : Array Oper) (n : Nat) : List Oper → (idn : Nat) → Slots → Hp → List Prop → Option (List Prop × Slots × Hp × List DR)
  | [], _, sl, hp, acc => some (acc, sl, hp, [])
  | o :: r, idn, sl, hp, acc => match dop P M ro ops idn o sl hp with
    | none => none
    | some (cs, d) => match put o.dst d.v n sl with
      | none => none
      | some sl' => match hmod d hp with
        | none => none
        | some hp' => match pushAll cs acc with
          | [] => match natF (idn + 1) fun idn' => dblk P M ro ops n r idn' sl' hp' [] with
            | some (ds, sl2, hp2, l) => some (ds, sl2, hp2, d :: l)
            | none => none
          | p :: ps => match natF (idn + 1) fun idn' => dblk P M ro ops n r idn' sl' hp' (p :: ps) with
            | some (ds, sl2, hp2, l) => some (ds, sl2, hp2, d :: l)
            | none => none

def disj1 (x : Option Nat) (l : List Nat) (y : Option Nat) : Bool :=
  match x with
  | none => true
  | some i => !hasN i l && (match y with
    | none => true
    | some j => !Nat.beq i j)
def disjL (b : List Nat) : List Nat → Bool
  | [] => true
  | i :: r => !hasN i b && disjL b r
/-- Two operations that may change places. -/
def indep (a b : DR) : Bool := disj1 a.dst b.rs b.dst && disj1 b.dst a.rs none && disjL b.rh a.mod && disjL b.mod a.mod && disjL a.rh b.mod
def indepRow (T : List (List Nat)) (i : Nat) (a : DR) : (j : Nat) → List DR → Bool
  | _, [] => true
  | j, b :: r => (inT T i j || indep a b) && indepRow T i a (j + 1) r
def indepAll (T : List (List Nat)) : (i : Nat) → List DR → Bool
  | _, [] => true
  | i, a :: r => indepRow T i a (i + 1) r && indepAll T (i + 1) r
def barRow (T : List (List Nat)) (j : Nat) : (i c : Nat) → Bool
  | _, 0 => true
  | i, c + 1 => inT T i j && barRow T j (i + 1) c
/-- All operations from j on (c of them) wait for the whole block of b operations from m on. -/
def barAll (T : List (List Nat)) (m b : Nat) : (j c : Nat) → Bool
  | _, 0 => true
  | j, c + 1 => barRow T j m b && barAll T m b (j + 1) c
end Sx
end
section
namespace Sx
open Go

theorem thin_get {k : List Nat} : ∀ {sl sl' : Slots}, thin k sl = some sl' → ∀ t, look t sl' = if hasN t k = true then look t sl else none
  | [], sl', h, t => by injection h with h; subst h; simp [look]
  | (i, u) :: r, sl', h, t => by
    simp only [thin] at h
    split at h <;> first | exact (none_ne h).elim | skip
    rename_i r' hr
    have ih := thin_get hr t
    cases hk : hasN i k with
    | true =>
      rw [hk] at h; simp only [cond_true, Option.some.injEq] at h; subst h
      simp only [look]
      cases hb : Nat.beq t i with
      | true => have := beq_nat hb; subst this; simp [hk]
      | false => simpa using ih
    | false =>
      rw [hk] at h; simp only [cond_false, Option.some.injEq] at h; subst h
      simp only [look]
      cases hb : Nat.beq t i with
      | true => have := beq_nat hb; subst this; rw [ih]; simp [hk]
      | false => simpa using ih
theorem thinH_get {k : List Nat} : ∀ {sl sl' : Hp}, thinH k sl = some sl' → ∀ t, hget t sl' = if hasN t k = true then hget t sl else none
  | [], sl', h, t => by injection h with h; subst h; simp [hget]
  | (i, u) :: r, sl', h, t => by
    simp only [thinH] at h
    split at h <;> first | exact (none_ne h).elim | skip
    rename_i r' hr
    have ih := thinH_get hr t
    cases hk : hasN i k with
    | true =>
      rw [hk] at h; simp only [cond_true, Option.some.injEq] at h; subst h
      simp only [hget]
      cases hb : Nat.beq t i with
      | true => have := beq_nat hb; subst this; simp [hk]
      | false => simpa using ih
    | false =>
      rw [hk] at h; simp only [cond_false, Option.some.injEq] at h; subst h
      simp only [hget]
      cases hb : Nat.beq t i with
      | true => have := beq_nat hb; subst this; rw [ih]; simp [hk]
      | false => simpa using ih
theorem hdel_get {i : Nat} : ∀ {hp r : Hp}, hdel i hp = some r → ∀ j, hget j r = if j = i then none else hget j hp
  | [], r, h, j => by injection h with h; subst h; simp [hget]
  | (k, v) :: hp, r, h, j => by
    simp only [hdel] at h
    split at h <;> first | exact (none_ne h).elim | skip
    rename_i r' hr
    have ih := hdel_get hr j
    cases hb : Nat.beq i k with
    | true =>
      rw [hb] at h; simp only [cond_true, Option.some.injEq] at h; subst h
      have := beq_nat hb; subst this
      rw [ih]
      simp only [hget]
      by_cases e : j = i
      · simp [e]
      · simp [e, beq_false_of e]
    | false =>
      rw [hb] at h; simp only [cond_false, Option.some.injEq] at h; subst h
      simp only [hget]
      have hne := beq_ne hb
      cases hj : Nat.beq j k with
      | true => have := beq_nat hj; subst this; simp [Ne.symm hne]
      | false => simpa using ih
def hputV (wh : List (Nat × SO)) (hp : Hp) (j : Nat) : Option SO := match hget j wh with
  | some so => some so
  | none => hget j hp
theorem hput_get : ∀ {wh : List (Nat × SO)} {hp hp' : Hp}, hput wh hp = some hp' → ∀ j : Nat, hget j hp' = hputV wh hp j
  | [], hp, hp', h, j => by injection h with h; subst h; rfl
  | (i, so) :: l, hp, hp', h, j => by
    simp only [hput] at h
    split at h <;> first | exact (none_ne h).elim | skip
    rename_i h1 e1
    split at h <;> first | exact (none_ne h).elim | skip
    rename_i r hr
    injection h with h; subst h
    have ih := hput_get e1 j
    unfold hputV at ih ⊢
    simp only [hget]
    by_cases e : j = i
    · subst e; simp [Nat.beq_refl]
    · rw [beq_false_of e]; simp only [cond_false]; rw [hdel_get hr, if_neg e, ih]
def hmodV (d : DR) (hp : Hp) (j : Nat) : Option SO := match hget j d.wh with
  | some so => some so
  | none => if j ∈ d.dl then none else hget j hp
theorem wkeys_mem {dl : List Nat} {t : Nat} : ∀ {wh : List (Nat × SO)}, t ∈ wkeys dl wh ↔ (∃ so, hget t wh = some so) ∨ t ∈ dl
  | [] => by simp [wkeys, hget]
  | (i, so) :: r => by
    have ih := wkeys_mem (dl := dl) (t := t) (wh := r)
    simp only [wkeys, List.mem_cons, hget]
    by_cases e : t = i
    · subst e; simp [Nat.beq_refl]
    · rw [beq_false_of e]; simp only [cond_false]; rw [ih]; simp [e]
theorem hget_one {i k : Nat} {s so : SO} (h : hget i [(k, s)] = some so) : i = k ∧ s = so := by
  simp only [hget] at h
  cases hb : Nat.beq i k with
  | true => rw [hb] at h; injection h with h; exact ⟨beq_nat hb, h⟩
  | false => rw [hb] at h; cases h
theorem hmod_get {d : DR} {hp hp' : Hp} (h : hmod d hp = some hp') (j : Nat) : hget j hp' = hmodV d hp j := by
  unfold hmod at h
  unfold hmodV
  split at h
  · rename_i e
    have := hput_get h j
    unfold hputV at this
    rw [this, e]
    cases hget j d.wh <;> simp
  · rename_i k ks e
    rw [hdrop_eq] at h
    have := hput_get h j
    unfold hputV at this
    rw [this, e]
    cases hget j d.wh <;> simp only [hdrop_get]
theorem put_look {dst : Option Tmp} {s : SV} {n : Nat} {sl sl' : Slots} (h : put dst s n sl = some sl') (t : Nat) :
    (look t sl' = if dst = some t then some s else look t sl) ∧ (dst = some t → t < n) := by
  cases dst with
  | none => injection h with h; subst h; simp
  | some d =>
    simp only [put, SV.force_eq] at h
    cases hb : Nat.ble (d + 1) n with
    | false => rw [hb] at h; cases h
    | true =>
      rw [hb] at h; simp only [cond_true, Option.some.injEq] at h; subst h
      have := ble_nat hb
      simp only [look]
      by_cases e : t = d
      · subst e; rw [Nat.beq_refl]; simp; omega
      · rw [beq_false_of e]; simp [Ne.symm e]

theorem dop_dst {P : Program} {M : Mode} {ro : Hp} {ops : Array Oper} {idn : Nat} {o : Oper} {sl : Slots} {hp : Hp} {cs : List Prop} {d : DR} (h : dop P M ro ops idn o sl hp = some (cs, d)) : d.dst = o.dst := by
  simp only [dop] at h
  repeat' (split at h)
  all_goals first
    | exact (none_ne h).elim
    | (simp only [Option.some.injEq, Prod.mk.injEq] at h; obtain ⟨-, rfl⟩ := h; rfl)
    | (rw [cond_eq_ite] at h; split at h <;> first | exact (none_ne h).elim | (simp only [Option.some.injEq, Prod.mk.injEq] at h; obtain ⟨-, rfl⟩ := h; rfl))


/-- What tells an operation's record: the new name, the operation, the slots, the blocks, what is owed, the record. -/
abbrev DRel := Nat → Oper → Slots → Hp → List Prop → DR → Prop
def dopD (P : Program) (M : Mode) (ro : Hp) (ops : Array Oper) : DRel := fun idn o sl hp cs d => dop P M ro ops idn o sl hp = some (cs, d)
/-- A block's run in the text's order: the states between its operations. -/
structure Chain (D : DRel) (ops : Array Oper) (n idn m b : Nat) (Sl : Nat → Slots) (Hs : Nat → Hp) (dr : Nat → DR) : Prop where
  step : ∀ j, j < b → ∃ o cs, ops[m + j]? = some o ∧ All cs ∧ (D (idn + j) o (Sl j) (Hs j) cs (dr j) ∧ (dr j).dst = o.dst) ∧
    put o.dst (dr j).v n (Sl j) = some (Sl (j + 1)) ∧ hmod (dr j) (Hs j) = some (Hs (j + 1))

theorem dblk_chain {P : Program} {M : Mode} {ro : Hp} {ops : Array Oper} {n : Nat} : ∀ {os : List Oper} {idn m : Nat} {sl sl' : Slots} {hp hp' : Hp} {acc cs : List Prop} {l : List DR},
    dblk P M ro ops n os idn sl hp acc = some (cs, sl', hp', l) → All cs → (∀ i, i < os.length → ops[m + i]? = os[i]?) →
    (∀ p ∈ acc, p ∈ cs) ∧ ∃ (Sl : Nat → Slots) (Hs : Nat → Hp) (dr : Nat → DR), Sl 0 = sl ∧ Hs 0 = hp ∧ Sl os.length = sl' ∧ Hs os.length = hp' ∧ Chain (dopD P M ro ops) ops n idn m os.length Sl Hs dr ∧ ∀ j, j < os.length → l[j]? = some (dr j)
  | [], idn, m, sl, sl', hp, hp', acc, cs, l, h, hc, ho => by
    simp only [dblk, Option.some.injEq, Prod.mk.injEq] at h
    obtain ⟨rfl, rfl, rfl, rfl⟩ := h
    exact ⟨fun _ h => h, fun _ => sl, fun _ => hp, fun _ => ⟨[], none, [], [], [], .und⟩, rfl, rfl, rfl, rfl, ⟨fun j hj => by simp at hj⟩, fun j hj => by simp at hj⟩
  | o :: os, idn, m, sl, sl', hp, hp', acc, cs, l, h, hc, ho => by
    simp only [dblk, natF_eq] at h
    split at h <;> first | exact (none_ne h).elim | skip
    rename_i cs1 d e1
    split at h <;> first | exact (none_ne h).elim | skip
    rename_i sl1 e2
    split at h <;> first | exact (none_ne h).elim | skip
    rename_i hp1 e3
    have key : ∀ acc', (∀ p, p ∈ cs1 ∨ p ∈ acc → p ∈ acc') → (match dblk P M ro ops n os (idn + 1) sl1 hp1 acc' with
        | some (ds, sl2, hp2, l) => some (ds, sl2, hp2, d :: l)
        | none => none) = some (cs, sl', hp', l) → (∀ p ∈ acc, p ∈ cs) ∧ ∃ (Sl : Nat → Slots) (Hs : Nat → Hp) (dr : Nat → DR), Sl 0 = sl ∧ Hs 0 = hp ∧ Sl (o :: os).length = sl' ∧ Hs (o :: os).length = hp' ∧
          Chain (dopD P M ro ops) ops n idn m (o :: os).length Sl Hs dr ∧ ∀ j, j < (o :: os).length → l[j]? = some (dr j) := by
      intro acc' hacc h
      split at h <;> first | exact (none_ne h).elim | skip
      rename_i ds sl2 hp2 l' e4
      simp only [Option.some.injEq, Prod.mk.injEq] at h
      obtain ⟨rfl, rfl, rfl, rfl⟩ := h
      obtain ⟨g0, Sl, Hs, dr, g1, g2, g3, g4, g5, g6⟩ := dblk_chain (m := m + 1) e4 hc (fun i hi => by
        have := ho (i + 1) (by simp; omega)
        rw [show m + 1 + i = m + (i + 1) by omega, this]; simp)
      refine ⟨fun p hp => g0 p (hacc p (.inr hp)), fun k => match k with | 0 => sl | k + 1 => Sl k, fun k => match k with | 0 => hp | k + 1 => Hs k, fun k => match k with | 0 => d | k + 1 => dr k, rfl, rfl, g3, g4, ⟨fun j hj => ?_⟩, fun j hj => ?_⟩
      · cases j with
        | zero => exact ⟨o, cs1, by simpa using ho 0 (by simp), fun p hp => hc p (g0 p (hacc p (.inl hp))), ⟨e1, dop_dst e1⟩, by simpa [g1] using e2, by simpa [g2] using e3⟩
        | succ j =>
          obtain ⟨o', cs', k1, k2, k3, k4, k5⟩ := g5.step j (by simpa using hj)
          exact ⟨o', cs', by rw [show m + (j + 1) = m + 1 + j by omega]; exact k1, k2, ⟨by rw [show idn + (j + 1) = idn + 1 + j by omega]; exact k3.1, k3.2⟩, k4, k5⟩
      · cases j with
        | zero => simp
        | succ j => simpa using g6 j (by simpa using hj)
    split at h
    · rename_i e; exact key [] (fun p hp => by have := pushAll_mem (cs := cs1) (acc := acc) hp; rw [e] at this; exact this) h
    · rename_i p ps e; exact key (p :: ps) (fun p hp => by have := pushAll_mem (cs := cs1) (acc := acc) hp; rw [e] at this; exact this) h

section
variable (T : List (List Nat)) (m b nx K : Nat) (Sl : Nat → Slots) (Hs : Nat → Hp) (dr : Nat → DR) (ro : Hp) (B : Base)

/-- Slot t was last written, among the operations of X, by the one before k (k = 0: by none). -/
def LastS (X : Nat → Prop) (t k : Nat) : Prop := k ≤ b ∧ (k = 0 ∨ (X (k - 1) ∧ (dr (k - 1)).dst = some t)) ∧ ∀ i, X i → (dr i).dst = some t → i < k
def LastH (X : Nat → Prop) (t k : Nat) : Prop := k ≤ b ∧ (k = 0 ∨ (X (k - 1) ∧ t ∈ (dr (k - 1)).mod)) ∧ ∀ i, X i → t ∈ (dr i).mod → i < k

structure Inv (X : Nat → Prop) (β : Env) (tmps : Array Value) (w : World) : Prop where
  S : ∀ t k v, LastS b dr X t k → look t (Sl k) = some v → Rel β v (tmps.getD t undef)
  H : ∀ t k s, LastH b dr X t k → hget t (Hs k) = some s → s.Live → ∃ bl o, β t = some bl ∧ B.D bl = none ∧ w.heap[bl]? = some o ∧ ORel β s o ∧ Fit (β.room t) o
  A : ∀ t k s t' k' s', LastH b dr X t k → hget t (Hs k) = some s → LastH b dr X t' k' → hget t' (Hs k') = some s' → s.Live → s'.Live → t ≠ t' → β t ≠ β t'
  F : ∀ i bl, β i = some bl → i < nx ∨ ∃ j c, X j ∧ c < K ∧ i = nx + j + c * b
  read : ∀ i s, hget i ro = some s → s.Live → ∃ b o, β i = some b ∧ B.D b = some o ∧ ORel β s o
  old : ∀ b o, B.D b = some o → w.heap[b]? = some o
  os : w.os = B.w.os
  tape : w.tape = B.w.tape
  output : w.output = B.w.output
  size : B.w.heap.size ≤ w.heap.size
  pin : B.pin.le β
end

/-- The last write at or before j in the text's order. -/
theorem last_before (p : Nat → Prop) (j : Nat) : ∃ k, k ≤ j ∧ (k = 0 ∨ p (k - 1)) ∧ ∀ i, k ≤ i → i < j → ¬ p i := by
  induction j with
  | zero => exact ⟨0, Nat.le_refl _, .inl rfl, fun i h1 h2 => by omega⟩
  | succ j ih =>
    by_cases h : p j
    · exact ⟨j + 1, Nat.le_refl _, .inr h, fun i h1 h2 => by omega⟩
    · obtain ⟨k, h1, h2, h3⟩ := ih
      refine ⟨k, by omega, h2, fun i g1 g2 => ?_⟩
      by_cases e : i = j
      · subst e; exact h
      · exact h3 i g1 (by omega)

theorem keep_look {D : DRel} {ops : Array Oper} {n idn m b : Nat} {Sl : Nat → Slots} {Hs : Nat → Hp} {dr : Nat → DR} (hch : Chain D ops n idn m b Sl Hs dr) (t : Nat) :
    ∀ (d k : Nat), k + d ≤ b → (∀ i, k ≤ i → i < k + d → ¬ (dr i).dst = some t) → look t (Sl (k + d)) = look t (Sl k)
  | 0, k, h, hn => rfl
  | d + 1, k, h, hn => by
    rw [← keep_look hch t d k (by omega) (fun i h1 h2 => hn i h1 (by omega))]
    obtain ⟨o, cs, h1, h2, h3, h4, h5⟩ := hch.step (k + d) (by omega)
    have := (put_look h4 t).1
    rw [show k + (d + 1) = k + d + 1 by omega, this, if_neg]
    rw [← h3.2]; exact hn (k + d) (by omega) (by omega)
theorem keep_hget {D : DRel} {ops : Array Oper} {n idn m b : Nat} {Sl : Nat → Slots} {Hs : Nat → Hp} {dr : Nat → DR} (hch : Chain D ops n idn m b Sl Hs dr) (t : Nat) :
    ∀ (d k : Nat), k + d ≤ b → (∀ i, k ≤ i → i < k + d → ¬ t ∈ (dr i).mod) → hget t (Hs (k + d)) = hget t (Hs k)
  | 0, k, h, hn => rfl
  | d + 1, k, h, hn => by
    rw [← keep_hget hch t d k (by omega) (fun i h1 h2 => hn i h1 (by omega))]
    obtain ⟨o, cs, h1, h2, h3, h4, h5⟩ := hch.step (k + d) (by omega)
    have := hmod_get h5 t
    rw [show k + (d + 1) = k + d + 1 by omega, this]
    have hw := hn (k + d) (by omega) (by omega)
    unfold DR.mod at hw
    rw [wkeys_mem, not_or] at hw
    unfold hmodV
    cases hwh : hget t (dr (k + d)).wh with
    | none => exact if_neg hw.2
    | some so => exact absurd ⟨so, hwh⟩ hw.1

/-- What X owes: it holds what its operations wait for, and it lies in the block. -/
structure Closed (T : List (List Nat)) (m b : Nat) (X : Nat → Prop) : Prop where
  lt : ∀ i, X i → i < b
  down : ∀ i j, X j → i < b → inT T (m + i) (m + j) = true → X i

def Indeps (T : List (List Nat)) (m b : Nat) (dr : Nat → DR) : Prop := ∀ i j, i < j → j < b → inT T (m + i) (m + j) = false → indep (dr i) (dr j) = true

theorem disj1_spec {x : Option Nat} {l : List Nat} {y : Option Nat} (h : disj1 x l y = true) {i : Nat} (hx : x = some i) : i ∉ l ∧ y ≠ some i := by
  subst hx
  simp only [disj1, Bool.and_eq_true, Bool.not_eq_true'] at h
  refine ⟨fun hm => ?_, fun e => ?_⟩
  · rw [hasN_mem.2 hm] at h; cases h.1
  · subst e; simp [Nat.beq_refl] at h

theorem disjL_spec {b : List Nat} : ∀ {l : List Nat}, disjL b l = true → ∀ i ∈ l, i ∉ b
  | [], _, i, h => by cases h
  | j :: r, h, i, hi => by
    simp only [disjL, Bool.and_eq_true, Bool.not_eq_true'] at h
    cases hi with
    | head => intro hm; rw [hasN_mem.2 hm] at h; cases h.1
    | tail _ hm => exact disjL_spec h.2 i hm
theorem stride {b j j' c c' : Nat} (hj : j < b) (hj' : j' < b) (h : j + c * b = j' + c' * b) : j = j' ∧ c = c' := by
  have e : j = j' := by
    have h1 := congrArg (· % b) h
    simpa [Nat.add_mul_mod_self_right, Nat.mod_eq_of_lt hj, Nat.mod_eq_of_lt hj'] using h1
  subst e
  refine ⟨rfl, ?_⟩
  have h2 : c * b = c' * b := by omega
  exact Nat.eq_of_mul_eq_mul_right (by omega) h2
section
variable {D : DRel} {ro : Hp} {ops : Array Oper} {T : List (List Nat)} {n nx m b : Nat} {Sl : Nat → Slots} {Hs : Nat → Hp} {dr : Nat → DR} {B : Base}

/-- A slot that operation j reads was last written, among X's, just where the text's order has it. -/
theorem read_slot (hch : Chain D ops n nx m b Sl Hs dr) (hin : Indeps T m b dr) {X : Nat → Prop} (hX : Closed T m b X) {j : Nat} (hj : j < b) (hjX : ¬ X j) (hpre : ∀ i, i < b → inT T (m + i) (m + j) = true → X i)
    {t : Nat} (ht : t ∈ (dr j).rs) : ∃ k, LastS b dr X t k ∧ look t (Sl k) = look t (Sl j) := by
  obtain ⟨k, h1, h2, h3⟩ := last_before (fun i => (dr i).dst = some t) j
  refine ⟨k, ⟨by omega, ?_, ?_⟩, ?_⟩
  · by_cases hk : k = 0
    · exact .inl hk
    · have h2 := h2.resolve_left hk
      refine .inr ⟨?_, h2⟩
      cases hT : inT T (m + (k - 1)) (m + j) with
      | true => exact hpre _ (by omega) hT
      | false =>
        have := hin (k - 1) j (by omega) hj hT
        simp only [indep, Bool.and_eq_true] at this
        exact absurd ht (disj1_spec this.1.1.1.1 h2).1
  · intro i hi hd
    rcases Nat.lt_or_ge i k with h | h
    · exact h
    · exfalso
      rcases Nat.lt_trichotomy i j with g | g | g
      · exact h3 i h g hd
      · subst g; exact hjX hi
      · cases hT : inT T (m + j) (m + i) with
        | true => exact hjX (hX.down j i hi hj hT)
        | false =>
          have := hin j i g (hX.lt i hi) hT
          simp only [indep, Bool.and_eq_true] at this
          exact (disj1_spec this.1.1.1.2 hd).1 ht
  · have := keep_look hch t (j - k) k (by omega) (fun i g1 g2 => h3 i g1 (by omega))
    rw [show k + (j - k) = j by omega] at this; exact this.symm
theorem read_heap (hch : Chain D ops n nx m b Sl Hs dr) (hin : Indeps T m b dr) {X : Nat → Prop} (hX : Closed T m b X) {j : Nat} (hj : j < b) (hjX : ¬ X j) (hpre : ∀ i, i < b → inT T (m + i) (m + j) = true → X i)
    {t : Nat} (ht : t ∈ (dr j).rh) : ∃ k, LastH b dr X t k ∧ hget t (Hs k) = hget t (Hs j) := by
  obtain ⟨k, h1, h2, h3⟩ := last_before (fun i => t ∈ (dr i).mod) j
  refine ⟨k, ⟨by omega, ?_, ?_⟩, ?_⟩
  · by_cases hk : k = 0
    · exact .inl hk
    · have h2 := h2.resolve_left hk
      refine .inr ⟨?_, h2⟩
      cases hT : inT T (m + (k - 1)) (m + j) with
      | true => exact hpre _ (by omega) hT
      | false =>
        have := hin (k - 1) j (by omega) hj hT
        simp only [indep, Bool.and_eq_true] at this
        exact absurd ht (disjL_spec this.1.1.2 _ h2)
  · intro i hi hd
    rcases Nat.lt_or_ge i k with h | h
    · exact h
    · exfalso
      rcases Nat.lt_trichotomy i j with g | g | g
      · exact h3 i h g hd
      · subst g; exact hjX hi
      · cases hT : inT T (m + j) (m + i) with
        | true => exact hjX (hX.down j i hi hj hT)
        | false =>
          have := hin j i g (hX.lt i hi) hT
          simp only [indep, Bool.and_eq_true] at this
          exact disjL_spec this.2 _ hd ht
  · have := keep_hget hch t (j - k) k (by omega) (fun i g1 g2 => h3 i g1 (by omega))
    rw [show k + (j - k) = j by omega] at this; exact this.symm

/-- Behind operation j: who wrote last. -/
theorem lastS_after (hin : Indeps T m b dr) {X : Nat → Prop} (hX : Closed T m b X) {j : Nat} (hj : j < b) (hjX : ¬ X j) {t k : Nat} (h : LastS b dr (fun i => X i ∨ i = j) t k) :
    ((dr j).dst = some t ∧ k = j + 1) ∨ ((dr j).dst ≠ some t ∧ LastS b dr X t k) := by
  obtain ⟨h1, h2, h3⟩ := h
  by_cases hd : (dr j).dst = some t
  · left
    refine ⟨hd, ?_⟩
    have hk := h3 j (.inr rfl) hd
    rcases h2 with h2 | ⟨h2 | h2, h4⟩
    · omega
    · exfalso
      have hlt : j < k - 1 ∨ k - 1 = j := by omega
      rcases hlt with g | g
      · cases hT : inT T (m + j) (m + (k - 1)) with
        | true => exact hjX (hX.down j _ h2 hj hT)
        | false =>
          have := hin j (k - 1) g (hX.lt _ h2) hT
          simp only [indep, Bool.and_eq_true] at this
          exact (disj1_spec this.1.1.1.1 hd).2 h4
      · rw [g] at h2; exact hjX h2
    · omega
  · right
    refine ⟨hd, h1, ?_, fun i hi he => h3 i (.inl hi) he⟩
    rcases h2 with h2 | ⟨h2 | h2, h4⟩
    · exact .inl h2
    · exact .inr ⟨h2, h4⟩
    · rw [h2] at h4; exact absurd h4 hd
theorem lastH_after (hin : Indeps T m b dr) {X : Nat → Prop} (hX : Closed T m b X) {j : Nat} (hj : j < b) (hjX : ¬ X j) {t k : Nat} (h : LastH b dr (fun i => X i ∨ i = j) t k) :
    (t ∈ (dr j).mod ∧ k = j + 1) ∨ (t ∉ (dr j).mod ∧ LastH b dr X t k) := by
  obtain ⟨h1, h2, h3⟩ := h
  by_cases hd : t ∈ (dr j).mod
  · left
    refine ⟨hd, ?_⟩
    have hk := h3 j (.inr rfl) hd
    rcases h2 with h2 | ⟨h2 | h2, h4⟩
    · omega
    · exfalso
      have hlt : j < k - 1 ∨ k - 1 = j := by omega
      rcases hlt with g | g
      · cases hT : inT T (m + j) (m + (k - 1)) with
        | true => exact hjX (hX.down j _ h2 hj hT)
        | false =>
          have := hin j (k - 1) g (hX.lt _ h2) hT
          simp only [indep, Bool.and_eq_true] at this
          exact disjL_spec this.1.2 _ hd h4
      · rw [g] at h2; exact hjX h2
    · omega
  · right
    refine ⟨hd, h1, ?_, fun i hi he => h3 i (.inl hi) he⟩
    rcases h2 with h2 | ⟨h2 | h2, h4⟩
    · exact .inl h2
    · exact .inr ⟨h2, h4⟩
    · rw [h2] at h4; exact absurd h4 hd
end
end Sx
end
section
namespace Sx
open Go

section
variable {D : DRel} {ro : Hp} {ops : Array Oper} {T : List (List Nat)} {n nx K m b : Nat} {Sl : Nat → Slots} {Hs : Nat → Hp} {dr : Nat → DR} {B : Base}

/-- The real effect of operation j, told by what it wrote. -/
structure Did (hp : Hp) (β : Env) (d : DR) (fr : Nat → Prop) (w : World) (β' : Env) (w' : World) : Prop where
  le : β.le β'
  new : ∀ i bl, β' i = some bl → β i = some bl ∨ fr i
  sub : ∀ i, i ∈ d.mod → fr i ∨ i ∈ d.rh
  wrote : ∀ i so, hget i d.wh = some so → so.Live → ∃ bl o, β' i = some bl ∧ w'.heap[bl]? = some o ∧ ORel β' so o ∧ Fit (β'.room i) o ∧
    (w.heap.size ≤ bl ∨ ∃ t s, t ∈ d.mod ∧ hget t hp = some s ∧ s.Live ∧ β t = some bl)
  apart : ∀ i i' so so', hget i d.wh = some so → hget i' d.wh = some so' → so.Live → so'.Live → i ≠ i' → β' i ≠ β' i'
  kept : ∀ bl o, w.heap[bl]? = some o → (∀ i s, i ∈ d.mod → hget i hp = some s → s.Live → β i = some bl → False) → w'.heap[bl]? = some o
  os : w'.os = w.os
  tape : w'.tape = w.tape
  output : w'.output = w.output
  size : w.heap.size ≤ w'.heap.size

theorem inv_fresh {X : Nat → Prop} (hX : Closed T m b X) {j : Nat} (hj : j < b) (hjX : ¬ X j) {β : Env} {tmps : Array Value} {w : World} (hI : Inv b nx K Sl Hs dr ro B X β tmps w) (c : Nat) : β (nx + j + c * b) = none := by
  cases hb : β (nx + j + c * b) with
  | none => rfl
  | some bl =>
    rcases hI.F _ bl hb with h | ⟨j', c', h1, h2, h3⟩
    · omega
    · have := stride hj (hX.lt _ h1) (c := c) (c' := c') (by omega)
      obtain ⟨rfl, _⟩ := this
      exact absurd h1 hjX
theorem inv_fresh0 {X : Nat → Prop} (hX : Closed T m b X) {j : Nat} (hj : j < b) (hjX : ¬ X j) {β : Env} {tmps : Array Value} {w : World} (hI : Inv b nx K Sl Hs dr ro B X β tmps w) : β (nx + j) = none := by
  simpa using inv_fresh hX hj hjX hI 0
theorem inv_step {dd : List Deferred} (hB : B.ok) (hch : Chain D ops n nx m b Sl Hs dr) (hin : Indeps T m b dr) {X : Nat → Prop} (hX : Closed T m b X) {j : Nat} (hj : j < b) (hjX : ¬ X j)
    (hpre : ∀ i, i < b → inT T (m + i) (m + j) = true → X i) {β β' : Env} {tmps : Array Value} {w w' : World} (hI : Inv b nx K Sl Hs dr ro B X β tmps w) (hsz : tmps.size = n)
    {fr : Nat → Prop} (hfr : ∀ i, fr i → ∃ c, c < K ∧ i = nx + j + c * b) (hd : Did (Hs j) β (dr j) fr w β' w') {v : Value} (hv : Rel β' (dr j).v v) :
    Inv b nx K Sl Hs dr ro B (fun i => X i ∨ i = j) β' (Act.put ⟨tmps, dd⟩ (dr j).dst v).tmps w' := by
  obtain ⟨o, cs, c1, c2, c3, c4, c5⟩ := hch.step j hj
  have hdst := c3.2
  have hlt : ∀ bl o, w.heap[bl]? = some o → bl < w.heap.size := fun bl o h => (Array.getElem?_eq_some_iff.1 h).1
  have hfresh : ∀ i, fr i → β i = none := fun i hi => by
    obtain ⟨c, _, rfl⟩ := hfr i hi
    exact inv_fresh hX hj hjX hI c
  -- a block that is touched is known
  have tch : ∀ t s bl, t ∈ (dr j).mod → hget t (Hs j) = some s → s.Live → β t = some bl → ∃ k, LastH b dr X t k ∧ hget t (Hs k) = some s := by
    intro t s bl h1 h2 h3 h4
    rcases hd.sub t h1 with h5 | h5
    · rw [hfresh t h5] at h4; cases h4
    · obtain ⟨k, k1, k2⟩ := read_heap hch hin hX hj hjX hpre h5
      exact ⟨k, k1, by rw [k2]; exact h2⟩
  have own : ∀ t s bl, t ∈ (dr j).mod → hget t (Hs j) = some s → s.Live → β t = some bl → B.D bl = none := by
    intro t s bl h1 h2 h3 h4
    obtain ⟨k, k1, k2⟩ := tch t s bl h1 h2 h3 h4
    obtain ⟨bl', o', q1, q2, _⟩ := hI.H t k s k1 k2 h3
    rw [h4] at q1; injection q1 with q1; subst q1; exact q2
  have keepOld : ∀ bl o, B.D bl = some o → w'.heap[bl]? = some o := by
    intro bl o hD
    refine hd.kept bl o (hI.old bl o hD) (fun i s hi hs hl hb => ?_)
    rw [own i s bl hi hs hl hb] at hD; cases hD
  -- another live block stays
  have other : ∀ t k s, LastH b dr X t k → hget t (Hs k) = some s → s.Live → t ∉ (dr j).mod → ∃ bl o, β t = some bl ∧ bl < w.heap.size ∧ β' t = some bl ∧ B.D bl = none ∧ w'.heap[bl]? = some o ∧ ORel β' s o ∧ Fit (β'.room t) o := by
    intro t k s h1 h2 h3 h4
    obtain ⟨bl, o, q1, q2, q3, q4, q5⟩ := hI.H t k s h1 h2 h3
    refine ⟨bl, o, q1, hlt bl o q3, hd.le _ _ q1, q2, ?_, ORel.mono hd.le _ _ q4, by rw [hd.le.r _ _ q1]; exact q5⟩
    refine hd.kept bl o q3 (fun i s' hi hs' hl' hb => ?_)
    have hit : i ≠ t := by intro e; subst e; exact h4 hi
    obtain ⟨k', k1, k2⟩ := tch i s' bl hi hs' hl' hb
    exact hI.A i k' s' t k s k1 k2 h1 h2 hl' h3 hit (hb.trans q1.symm)
  -- the block that was written
  have mine : ∀ t s, t ∈ (dr j).mod → hget t (Hs (j + 1)) = some s → s.Live → (∃ so, hget t (dr j).wh = some so ∧ so.Live) ∧ ∃ bl o, β' t = some bl ∧ B.D bl = none ∧ w'.heap[bl]? = some o ∧ ORel β' s o ∧ Fit (β'.room t) o ∧
      (w.heap.size ≤ bl ∨ ∃ t' s', t' ∈ (dr j).mod ∧ hget t' (Hs j) = some s' ∧ s'.Live ∧ β t' = some bl) := by
    intro t s h1 h2 h3
    have hg := hmod_get c5 t
    unfold hmodV at hg
    rw [h2] at hg
    have h1' := h1
    unfold DR.mod at h1
    rw [wkeys_mem] at h1
    cases hw : hget t (dr j).wh with
    | none =>
      rw [hw] at h1 hg
      simp only at hg
      rcases h1 with ⟨_, h1⟩ | h1
      · cases h1
      · rw [if_pos h1] at hg; cases hg
    | some so =>
      rw [hw] at hg
      injection hg with hg; subst hg
      obtain ⟨bl, o, q1, q2, q3, q4, q5⟩ := hd.wrote t s hw h3
      refine ⟨⟨s, rfl, h3⟩, bl, o, q1, ?_, q2, q3, q4, q5⟩
      rcases q5 with q5 | ⟨t', s', g1, g2, g3, g4⟩
      · cases hD : B.D bl with
        | none => rfl
        | some o' => have := hB _ _ hD; have := hI.size; omega
      · exact own t' s' bl g1 g2 g3 g4
  refine ⟨?_, ?_, ?_, ?_, ?_, keepOld, hd.os.trans hI.os, hd.tape.trans hI.tape, hd.output.trans hI.output, Nat.le_trans hI.size hd.size, Env.le_trans hI.pin hd.le⟩
  · intro t k u hL hl
    rcases lastS_after hin hX hj hjX hL with ⟨h1, rfl⟩ | ⟨h1, h2⟩
    · have := (put_look c4 t)
      rw [hdst] at h1
      rw [this.1, if_pos h1] at hl
      injection hl with hl; subst hl
      have ht := this.2 h1
      rw [hdst, h1]
      simp only [Act.put, Array.getD_eq_getD_getElem?, Array.getElem?_setIfInBounds]
      rw [if_pos trivial, if_pos (by omega)]
      exact hv
    · have h0 := Rel.mono hd.le _ _ (hI.S t k u h2 hl)
      cases hdd : (dr j).dst with
      | none => simpa [Act.put] using h0
      | some d =>
        have hne : d ≠ t := by intro e; subst e; exact h1 hdd
        simp only [Act.put, Array.getD_eq_getD_getElem?, Array.getElem?_setIfInBounds]
        rw [if_neg hne]
        simpa [Array.getD_eq_getD_getElem?] using h0
  · intro t k s hL hl hlive
    rcases lastH_after hin hX hj hjX hL with ⟨h1, rfl⟩ | ⟨h1, h2⟩
    · obtain ⟨_, bl, o, q1, q2, q3, q4, q5, _⟩ := mine t s h1 hl hlive
      exact ⟨bl, o, q1, q2, q3, q4, q5⟩
    · obtain ⟨bl, o, _, _, q⟩ := other t k s h2 hl hlive h1
      exact ⟨bl, o, q⟩
  · intro t k s t' k' s' hL hl hL' hl' ls ls' hne
    -- one that was just written, and one that was not
    have apart1 : ∀ t t' k' s s', t ∈ (dr j).mod → hget t (Hs (j + 1)) = some s → s.Live → t' ∉ (dr j).mod → LastH b dr X t' k' → hget t' (Hs k') = some s' → s'.Live → β' t ≠ β' t' := by
      intro t t' k' s s' h1 h2 h3 h4 h5 h6 h7 he
      obtain ⟨_, bl, o, q1, _, _, _, _, q6⟩ := mine t s h1 h2 h3
      obtain ⟨bl', o', r1, r2, r3, _⟩ := other t' k' s' h5 h6 h7 h4
      rw [q1, r3] at he; injection he with he; subst he
      rcases q6 with q6 | ⟨t0, s0, g1, g2, g3, g4⟩
      · omega
      · obtain ⟨k0, k1, k2⟩ := tch t0 s0 bl g1 g2 g3 g4
        have hne0 : t0 ≠ t' := by intro e; subst e; exact h4 g1
        exact hI.A t0 k0 s0 t' k' s' k1 k2 h5 h6 g3 h7 hne0 (g4.trans r1.symm)
    rcases lastH_after hin hX hj hjX hL with ⟨h1, rfl⟩ | ⟨h1, h2⟩
    · rcases lastH_after hin hX hj hjX hL' with ⟨g1, rfl⟩ | ⟨g1, g2⟩
      · obtain ⟨⟨so, e1, l1⟩, _⟩ := mine t s h1 hl ls
        obtain ⟨⟨so', e2, l2⟩, _⟩ := mine t' s' g1 hl' ls'
        exact hd.apart t t' so so' e1 e2 l1 l2 hne
      · exact apart1 t t' k' s s' h1 hl ls g1 g2 hl' ls'
    · rcases lastH_after hin hX hj hjX hL' with ⟨g1, rfl⟩ | ⟨g1, g2⟩
      · exact Ne.symm (apart1 t' t k s' s g1 hl' ls' h1 h2 hl ls)
      · obtain ⟨bl, o, q1, q2, q3, _⟩ := other t k s h2 hl ls h1
        obtain ⟨bl', o', r1, r2, r3, _⟩ := other t' k' s' g2 hl' ls' g1
        have := hI.A t k s t' k' s' h2 hl g2 hl' ls ls' hne
        rw [q3, r3]; rw [q1, r1] at this; exact this
  · intro i bl hb
    rcases hd.new i bl hb with h | h
    · rcases hI.F i bl h with h | ⟨j', c, g1, g2⟩
      · exact .inl h
      · exact .inr ⟨j', c, .inl g1, g2⟩
    · obtain ⟨c, h1, h2⟩ := hfr i h
      exact .inr ⟨j, c, .inr rfl, h1, h2⟩
  · intro i s hi hlive
    obtain ⟨bl, o, q1, q2, q3⟩ := hI.read i s hi hlive
    exact ⟨bl, o, hd.le _ _ q1, q2, ORel.mono hd.le _ _ q3⟩
end
end Sx
end
section
namespace Sx
open Go

section
variable {D : DRel} {P : Program} {M : Mode} {ro : Hp} {ops : Array Oper} {T : List (List Nat)} {n nx K m b : Nat} {Sl : Nat → Slots} {Hs : Nat → Hp} {dr : Nat → DR} {B : Base}

theorem chain_lt (hch : Chain D ops n nx m b Sl Hs dr) (h0 : ∀ t v, look t (Sl 0) = some v → t < n) : ∀ j, j ≤ b → ∀ t v, look t (Sl j) = some v → t < n
  | 0, _, t, v, h => h0 t v h
  | j + 1, hj, t, v, h => by
    obtain ⟨o, cs, c1, c2, c3, c4, c5⟩ := hch.step j (by omega)
    have := put_look c4 t
    rw [this.1] at h
    by_cases e : o.dst = some t
    · exact this.2 e
    · rw [if_neg e] at h; exact chain_lt hch h0 j (by omega) t v h

theorem allIn_spec {l : List Nat} : ∀ {ks : List Nat}, allIn l ks = true → ∀ i ∈ ks, i ∈ l
  | [], _, i, h => by cases h
  | j :: r, h, i, hi => by
    simp only [allIn, Bool.and_eq_true] at h
    cases hi with
    | head => exact hasN_mem.1 h.1
    | tail _ hm => exact allIn_spec h.2 i hm
theorem mod_none {d : DR} (h : d.wh = []) (h2 : d.dl = []) : d.mod = [] := by unfold DR.mod; rw [h, h2]; rfl
theorem did_same {hp : Hp} {β : Env} {d : DR} {fr : Nat → Prop} {w : World} (h : d.wh = []) (h2 : d.dl = []) : Did hp β d fr w β w :=
  ⟨Env.le_refl _, fun _ _ h => .inl h, fun i hi => (by rw [mod_none h h2] at hi; cases hi), fun i so e => (by rw [h] at e; cases e), fun i i' so so' e => (by rw [h] at e; cases e), fun _ _ e _ => e, rfl, rfl, rfl, Nat.le_refl _⟩
theorem did_below {hp : Hp} {β : Env} {d : DR} {fr : Nat → Prop} {w w' : World} (h : d.wh = []) (h2 : d.dl = []) (hb : RowKit.Below w.heap.size w w') : Did hp β d fr w β w' :=
  ⟨Env.le_refl _, fun _ _ h => .inl h, fun i hi => (by rw [mod_none h h2] at hi; cases hi), fun i so e => (by rw [h] at e; cases e), fun i i' so so' e => (by rw [h] at e; cases e), fun bl o e _ => (hb.block bl (Array.getElem?_eq_some_iff.1 e).1).trans e, hb.os, hb.tape, hb.output, hb.size⟩

theorem op_did1 {dd : List Deferred} (hP : Named P) (hM : SumOk P M.sum) (hch : Chain D ops n nx m b Sl Hs dr) (hin : Indeps T m b dr) (h0 : ∀ t v, look t (Sl 0) = some v → t < n) {X : Nat → Prop} (hX : Closed T m b X) {j : Nat}
    (hj : j < b) (hjX : ¬ X j) (hpre : ∀ i, i < b → inT T (m + i) (m + j) = true → X i) {β : Env} {tmps : Array Value} {w : World} (hI : Inv b nx K Sl Hs dr ro B X β tmps w) (hsz : tmps.size = n)
    {o : Oper} {cs : List Prop} (ho : ops[m + j]? = some o) (hc : All cs) (hd : dop P M ro ops (nx + j) o (Sl j) (Hs j) = some (cs, dr j)) (fb : Frame) (k : List Item) (fs : List Frame) (r : List Nat) :
    ∃ (β' : Env) (w' : World) (v : Value), Did (Hs j) β (dr j) (· = nx + j) w β' w' ∧ Rel β' (dr j).v v ∧
      Steps P (lone (fb.atR ⟨tmps, dd⟩ (.inRegion ops ((m + j) :: r) :: k)) fs w) (lone (fb.atR (Act.put ⟨tmps, dd⟩ (dr j).dst v) (.inRegion ops r :: k)) fs w') := by
  rw [dop_dst hd]
  have hltj := chain_lt hch h0 j (by omega)
  have rdS : ∀ {t}, t ∈ (dr j).rs → ∀ v, look t (Sl j) = some v → Rel β v (tmps.getD t undef) := by
    intro t ht v hv
    obtain ⟨kk, k1, k2⟩ := read_slot hch hin hX hj hjX hpre ht
    exact hI.S t kk v k1 (by rw [k2]; exact hv)
  have rdH : ∀ {t}, t ∈ (dr j).rh → ∀ s, hget t (Hs j) = some s → ∃ kk, LastH b dr X t kk ∧ hget t (Hs kk) = some s := by
    intro t ht s hs
    obtain ⟨kk, k1, k2⟩ := read_heap hch hin hX hj hjX hpre ht
    exact ⟨kk, k1, by rw [k2]; exact hs⟩
  have hfresh : β (nx + j) = none := inv_fresh0 hX hj hjX hI
  simp only [dop] at hd
  split at hd <;> first | exact (none_ne hd).elim | skip
  rename_i slv e1
  split at hd <;> first | exact (none_ne hd).elim | skip
  rename_i hpv e2
  have g1 := thin_get e1
  have g2 := thinH_get e2
  -- what the views give, once the record's lists are known
  have views : (dr j).rs = opSlots ops o → (dr j).rh = touch slv o.op → Rho β slv (Act.eval ⟨tmps, dd⟩) ∧ Mem β hpv ro B w ∧ (∀ t v, look t slv = some v → t < tmps.size) := by
    intro hrs hrh
    refine ⟨⟨fun t v hv => ?_, fun _ => rfl, fun _ => rfl⟩, ⟨?_, ?_, hI.read, hI.old, hI.os, hI.tape, hI.output, hI.size, hI.pin⟩, fun t v hv => ?_⟩
    · rw [g1 t] at hv
      split at hv
      · rename_i hm; exact rdS (by rw [hrs]; exact hasN_mem.1 hm) v hv
      · cases hv
    · intro i s hi hlive
      rw [g2 i] at hi
      split at hi
      · rename_i hm
        obtain ⟨kk, k1, k2⟩ := rdH (by rw [hrh]; exact hasN_mem.1 hm) s hi
        exact hI.H i kk s k1 k2 hlive
      · cases hi
    · intro i i' s s' hi hi' ls ls' hne
      rw [g2 i] at hi
      rw [g2 i'] at hi'
      split at hi
      · rename_i hm
        split at hi'
        · rename_i hm'
          obtain ⟨kk, k1, k2⟩ := rdH (by rw [hrh]; exact hasN_mem.1 hm) s hi
          obtain ⟨kk', k1', k2'⟩ := rdH (by rw [hrh]; exact hasN_mem.1 hm') s' hi'
          exact hI.A i kk s i' kk' s' k1 k2 k1' k2' ls ls' hne
        · cases hi'
      · cases hi
    · rw [g1 t] at hv
      split at hv
      · rw [hsz]; exact hltj t v hv
      · cases hv
  split at hd <;> first | exact (none_ne hd).elim | skip
  · -- passed over
    rename_i e3
    simp only [Option.some.injEq, Prod.mk.injEq] at hd
    obtain ⟨rfl, hd⟩ := hd
    obtain ⟨hrho, hmem, hlt⟩ := views (by rw [← hd]) (by rw [← hd])
    have hw := guard_rel e3 hsz hrho.slot hlt
    exact ⟨β, w, undef, did_same (by rw [← hd]) (by rw [← hd]), by rw [← hd]; trivial, .one (op_pass ho hw)⟩
  · -- it may run
    rename_i g e3
    split at hd
    · rename_i cs1 v e4
      simp only [Option.some.injEq, Prod.mk.injEq] at hd
      obtain ⟨rfl, hd⟩ := hd
      obtain ⟨hrho, hmem, hlt⟩ := views (by rw [← hd]) (by rw [← hd])
      have hw := guard_rel e3 hsz hrho.slot hlt
      cases g with
      | false => exact ⟨β, w, undef, did_same (by rw [← hd]) (by rw [← hd]), by rw [← hd]; exact ⟨fun e => Bool.noConfusion e, fun _ => rfl⟩, .one (op_pass ho hw)⟩
      | true =>
        have hc1 : All cs1 := fun p hp' => hc _ (List.mem_map_of_mem hp') rfl
        have hq : ∃ u, (execOp (Act.eval ⟨tmps, dd⟩) o).run P w = .ok (.value u) w ∧ Rel β v u := by
          unfold quietAll at e4
          split at e4
          · rename_i q eq
            injection e4 with e4; subst e4
            exact quiet_run (P := P) hmem hrho eq hc1
          · exact quiet2_run (P := P) (w := w) hrho e4 hc1
        obtain ⟨u, hu, hru⟩ := hq
        exact ⟨β, w, u, did_same (by rw [← hd]) (by rw [← hd]), by rw [← hd]; exact ⟨fun _ => hru, fun e => Bool.noConfusion e⟩, .one (op_value ho hw hu)⟩
    · split at hd <;> first | exact (none_ne hd).elim | skip
      rename_i cs1 ff gg cc xs e4
      split at hd <;> first | exact (none_ne hd).elim | skip
      rename_i ds v e5
      simp only [Option.some.injEq, Prod.mk.injEq] at hd
      obtain ⟨rfl, hd⟩ := hd
      obtain ⟨hrho, hmem, hlt⟩ := views (by rw [← hd]) (by rw [← hd])
      have hw := guard_rel e3 hsz hrho.slot hlt
      cases g with
      | false => exact ⟨β, w, undef, did_same (by rw [← hd]) (by rw [← hd]), by rw [← hd]; exact ⟨fun e => Bool.noConfusion e, fun _ => rfl⟩, .one (op_pass ho hw)⟩
      | true =>
        have hc1 : All (cs1 ++ ds) := fun p hp' => hc _ (List.mem_map_of_mem hp') rfl
        obtain ⟨w', u, hbel, hru, hst⟩ := sum_steps hM hP hrho e4 e5 hc1.left hc1.right hw fb k fs r ho
        exact ⟨β, w', u, did_below (by rw [← hd]) (by rw [← hd]) hbel, by rw [← hd]; exact ⟨fun _ => hru, fun e => Bool.noConfusion e⟩, hst⟩
  · -- it runs
    rename_i e3
    split at hd
    · rename_i cs1 v e4
      simp only [Option.some.injEq, Prod.mk.injEq] at hd
      obtain ⟨rfl, hd⟩ := hd
      obtain ⟨hrho, hmem, hlt⟩ := views (by rw [← hd]) (by rw [← hd])
      have hw := guard_rel e3 hsz hrho.slot hlt
      have hq : ∃ u, (execOp (Act.eval ⟨tmps, dd⟩) o).run P w = .ok (.value u) w ∧ Rel β v u := by
        unfold quietAll at e4
        split at e4
        · rename_i q eq
          injection e4 with e4; subst e4
          exact quiet_run (P := P) hmem hrho eq hc
        · exact quiet2_run (P := P) (w := w) hrho e4 hc
      obtain ⟨u, hu, hru⟩ := hq
      exact ⟨β, w, u, did_same (by rw [← hd]) (by rw [← hd]), by rw [← hd]; exact hru, .one (op_value ho hw hu)⟩
    · split at hd
      · rename_i cs1 v so e4
        simp only [Option.some.injEq, Prod.mk.injEq] at hd
        obtain ⟨rfl, hd⟩ := hd
        obtain ⟨hrho, hmem, hlt⟩ := views (by rw [← hd]) (by rw [← hd])
        have hw := guard_rel e3 hsz hrho.slot hlt
        obtain ⟨ob, u, hrun, hl, hor, hrel⟩ := fresh1_run (w := w) hrho e4 hc
        have hle : β.le (β.add (nx + j) w.heap.size (osize ob)) := Env.le_add hfresh
        have hru := hrel _ hle (Env.add_same ..) (Env.add_room ..)
        have hor := hor _ hle (Env.add_same ..)
        refine ⟨_, w.alloc ob, u, ⟨hle, ?_, ?_, ?_, ?_, ?_, rfl, rfl, rfl, by simp [World.size_alloc]⟩, by rw [← hd]; exact hru, .one (op_value ho hw hrun)⟩
        · intro i bl hb
          by_cases e : i = nx + j
          · exact .inr e
          · rw [Env.add_other _ _ _ e] at hb; exact .inl hb
        · intro i hi
          rw [← hd] at hi
          simp only [DR.mod, wkeys, List.mem_cons, List.not_mem_nil, or_false] at hi
          exact .inl hi
        · intro i so' e _
          rw [← hd] at e
          obtain ⟨rfl, rfl⟩ := hget_one e
          exact ⟨w.heap.size, ob, Env.add_same .., by show (w.heap.push ob)[w.heap.size]? = _; simp, hor, ⟨hl, by rw [Env.add_room]; exact Nat.le_refl _⟩, .inl (Nat.le_refl _)⟩
        · intro i i' so1 so2 e1 e2 _ _ hne
          rw [← hd] at e1 e2
          exact absurd ((hget_one e1).1.trans (hget_one e2).1.symm) hne
        · intro bl o' he _
          rw [RowKit.Below.heap_alloc w ob bl (Array.getElem?_eq_some_iff.1 he).1]; exact he
      · split at hd
        · rename_i cs1 i so e4
          rw [cond_eq_ite] at hd
          split at hd <;> first | exact (none_ne hd).elim | skip
          rename_i hin'
          simp only [Option.some.injEq, Prod.mk.injEq] at hd
          obtain ⟨rfl, hd⟩ := hd
          obtain ⟨hrho, hmem, hlt⟩ := views (by rw [← hd]) (by rw [← hd])
          have hw := guard_rel e3 hsz hrho.slot hlt
          obtain ⟨w', o', hrun, ⟨hm, hlo⟩, hwr⟩ := store1_run (P := P) hmem hrho e4 hc
          obtain ⟨bl, ob, q1, q2, q3, q4, q5⟩ := hwr.at_
          have hg := g2 i
          rw [hm, if_pos hin'] at hg
          have hmod : i ∈ (dr j).mod := by rw [← hd]; simp [DR.mod, wkeys]
          refine ⟨β, w', undef, ⟨Env.le_refl _, fun _ _ h => .inl h, ?_, ?_, ?_, ?_, hwr.os, hwr.tape, hwr.output, by rw [hwr.size]; exact Nat.le_refl _⟩, by rw [← hd]; trivial, .one (op_unit ho hw hrun)⟩
          · intro i' hi
            rw [← hd] at hi ⊢
            simp only [DR.mod, wkeys, List.mem_cons, List.not_mem_nil, or_false] at hi
            subst hi
            exact .inr (hasN_mem.1 hin')
          · intro i' so' e _
            rw [← hd] at e
            obtain ⟨rfl, rfl⟩ := hget_one e
            exact ⟨bl, ob, q1, q2, q3, q4, .inr ⟨_, o', hmod, hg.symm, hlo, q1⟩⟩
          · intro i1 i2 so1 so2 e1 e2 _ _ hne
            rw [← hd] at e1 e2
            exact absurd ((hget_one e1).1.trans (hget_one e2).1.symm) hne
          · intro bl' o2 he hno
            by_cases e : bl' = bl
            · subst e; exact (hno i o' hmod hg.symm hlo q1).elim
            · rw [q5 bl' e]; exact he
        · split at hd
          · -- an append
            rename_i cs1 aks an am asz af ae e4
            rw [cond_eq_ite] at hd
            split at hd <;> first | exact (none_ne hd).elim | skip
            rename_i hin'
            simp only [Option.some.injEq, Prod.mk.injEq] at hd
            obtain ⟨rfl, hd⟩ := hd
            obtain ⟨hrho, hmem, hlt⟩ := views (by rw [← hd]) (by rw [← hd])
            have hw := guard_rel e3 hsz hrho.slot hlt
            obtain ⟨β', w', v, a1, a2, a3, a4, a5⟩ := app_did (nx + j) hmem hfresh hrho e4 hc
            have hks : ∀ t ∈ aks, t ∈ (dr j).rh := by rw [← hd]; exact allIn_spec hin'
            have hmod : (dr j).mod = (nx + j) :: aks := by rw [← hd]; rfl
            have hview : ∀ t s, hget t hpv = some s → hget t (Hs j) = some s := by
              intro t s ht
              rw [g2 t] at ht
              split at ht
              · exact ht
              · cases ht
            refine ⟨β', w', v, ⟨a1, a5.new, ?_, ?_, ?_, ?_, a5.os, a5.tape, a5.output, a5.size⟩, by rw [← hd]; exact a3, .one (op_value ho hw a2)⟩
            · intro i hi
              rw [hmod] at hi
              cases hi with
              | head => exact .inl rfl
              | tail _ hm => exact .inr (hks i hm)
            · intro i so' e hl
              rw [← hd] at e
              obtain ⟨rfl, rfl⟩ := hget_one e
              obtain ⟨bl, ob, b1, b2, b3, b4, b5⟩ := a4 hl
              refine ⟨bl, ob, b1, b2, b3, b4, ?_⟩
              rcases b5 with b5 | ⟨t, s, c1, c2, c3, c4⟩
              · exact .inl (Nat.le_of_eq b5.symm)
              · exact .inr ⟨t, s, by rw [hmod]; exact List.mem_cons_of_mem _ c1, hview t s c2, c3, c4⟩
            · intro i1 i2 so1 so2 e1 e2 _ _ hne
              rw [← hd] at e1 e2
              exact absurd ((hget_one e1).1.trans (hget_one e2).1.symm) hne
            · intro bl o2 he hno
              exact a5.kept bl o2 he (fun t s h1 h2 h3 h4 => hno t s (by rw [hmod]; exact List.mem_cons_of_mem _ h1) (hview t s h2) h3 h4)
          · split at hd <;> first | exact (none_ne hd).elim | skip
            rename_i cs1 ff gg cc xs e4
            split at hd <;> first | exact (none_ne hd).elim | skip
            rename_i ds v e5
            simp only [Option.some.injEq, Prod.mk.injEq] at hd
            obtain ⟨rfl, hd⟩ := hd
            obtain ⟨hrho, hmem, hlt⟩ := views (by rw [← hd]) (by rw [← hd])
            have hw := guard_rel e3 hsz hrho.slot hlt
            obtain ⟨w', u, hbel, hru, hst⟩ := sum_steps hM hP hrho e4 e5 hc.left hc.right hw fb k fs r ho
            exact ⟨β, w', u, did_below (by rw [← hd]) (by rw [← hd]) hbel, by rw [← hd]; exact hru, hst⟩
theorem op_did {dd : List Deferred} (hP : Named P) (hM : SumOk P M.sum) (hch : Chain (dopD P M ro ops) ops n nx m b Sl Hs dr) (hin : Indeps T m b dr) (h0 : ∀ t v, look t (Sl 0) = some v → t < n) {X : Nat → Prop} (hX : Closed T m b X) {j : Nat}
    (hj : j < b) (hjX : ¬ X j) (hpre : ∀ i, i < b → inT T (m + i) (m + j) = true → X i) {β : Env} {tmps : Array Value} {w : World} (hI : Inv b nx K Sl Hs dr ro B X β tmps w) (hsz : tmps.size = n)
    (fb : Frame) (k : List Item) (fs : List Frame) (r : List Nat) :
    ∃ (β' : Env) (w' : World) (v : Value), Did (Hs j) β (dr j) (· = nx + j) w β' w' ∧ Rel β' (dr j).v v ∧
      Steps P (lone (fb.atR ⟨tmps, dd⟩ (.inRegion ops ((m + j) :: r) :: k)) fs w) (lone (fb.atR (Act.put ⟨tmps, dd⟩ (dr j).dst v) (.inRegion ops r :: k)) fs w') := by
  obtain ⟨o, cs, ho, hc, ⟨hd, hdst⟩, c4, c5⟩ := hch.step j hj
  exact op_did1 hP hM hch hin h0 hX hj hjX hpre hI hsz ho hc hd fb k fs r
end
end Sx
end
section
namespace Sx
open Go

def listedTo (n m : Nat) : Array Bool := (Array.range n).map (fun i => decide (i < m))
/-- What is left of an order when the first m operations are done. -/
def goF (ops : Array Oper) (m t : Nat) : List Nat := Region.linearise.go .any ops (ops.size - m) t (listedTo ops.size m) []
def cntL (n : Nat) (l : Array Bool) : Nat := (List.range n).countP (fun i => !l.getD i true)

theorem countP_one {f g : Nat → Bool} {i : Nat} (hf : f i = true) (hg : g i = false) (hs : ∀ j, j ≠ i → f j = g j) : ∀ {l : List Nat}, l.Nodup → i ∈ l → l.countP g + 1 = l.countP f
  | [], _, h => by cases h
  | a :: l, hn, h => by
    simp only [List.nodup_cons] at hn
    simp only [List.countP_cons]
    by_cases e : a = i
    · subst e
      have : l.countP g = l.countP f := by
        apply List.countP_congr
        intro x hx
        have : x ≠ a := by intro e; subst e; exact hn.1 hx
        rw [hs x this]
      rw [hf, hg, this]; simp
    · have hm : i ∈ l := by
        cases h with
        | head => exact absurd rfl e
        | tail _ hm => exact hm
      have := countP_one hf hg hs hn.2 hm
      rw [hs a e]; omega
theorem cnt_set {n i : Nat} {l : Array Bool} (hi : i < n) (hl : l.size = n) (h : l.getD i true = false) : cntL n (l.setIfInBounds i true) + 1 = cntL n l := by
  unfold cntL
  refine countP_one (i := i) (by simp [h]) ?_ (fun j hj => ?_) List.nodup_range (List.mem_range.2 hi)
  · simp [Array.getD_eq_getD_getElem?, Array.getElem?_setIfInBounds, hl, hi]
  · rw [getD_set_ne true (Ne.symm hj)]
theorem listedTo_get (n m i : Nat) (d : Bool) : (listedTo n m).getD i d = if i < n then decide (i < m) else d := by
  simp only [listedTo, Array.getD_eq_getD_getElem?, Array.getElem?_map, Array.getElem?_range]
  split <;> simp
theorem cnt_to (n m : Nat) (h : m ≤ n) : cntL n (listedTo n m) = n - m := by
  unfold cntL
  have : ∀ k, k ≤ n → (List.range k).countP (fun i => !(listedTo n m).getD i true) = k - m := by
    intro k
    induction k with
    | zero => intro _; simp
    | succ k ih =>
      intro hk
      rw [List.range_succ, List.countP_append, ih (by omega)]
      simp only [List.countP_cons, List.countP_nil, listedTo_get]
      rw [if_pos (show k < n by omega)]
      by_cases hm : k < m
      · simp [hm]; omega
      · simp [hm]; omega
  exact this n (Nat.le_refl _)
theorem go_succ (ops : Array Oper) (fuel t : Nat) (listed : Array Bool) (h : Region.ready .any ops listed ≠ []) :
    ∃ i t', i ∈ Region.ready .any ops listed ∧ Region.linearise.go .any ops (fuel + 1) t listed [] = i :: Region.linearise.go .any ops fuel t' (listed.setIfInBounds i true) [] ∧
      (Region.ready .any ops listed = [i] → t' = t) := by
  have hpos : 0 < (Region.ready .any ops listed).length := List.length_pos_iff.2 h
  have hlt : t % (Region.ready .any ops listed).length < (Region.ready .any ops listed).length := Nat.mod_lt _ hpos
  refine ⟨(Region.ready .any ops listed)[t % (Region.ready .any ops listed).length], t / (Region.ready .any ops listed).length, List.getElem_mem _, ?_, ?_⟩
  · have hget : (Region.ready .any ops listed)[t % (Region.ready .any ops listed).length]? = some (Region.ready .any ops listed)[t % (Region.ready .any ops listed).length] := List.getElem?_eq_getElem hlt
    have e : Region.linearise.go .any ops (fuel + 1) t listed [] = match (Region.ready .any ops listed)[t % (Region.ready .any ops listed).length]? with
      | some i => Region.linearise.go .any ops fuel (t / (Region.ready .any ops listed).length) (listed.setIfInBounds i true) [i]
      | none => [] := rfl
    rw [e, hget]
    simp only
    rw [linearise_go_acc]; rfl
  · intro h1; rw [h1]; simp

section
variable {P : Program} {M : Mode} {ro : Hp} {ops : Array Oper} {T : List (List Nat)} {n nx m b : Nat} {Sl : Nat → Slots} {Hs : Nat → Hp} {dr : Nat → DR} {B : Base}

/-- The set that is listed holds what its members wait for. -/
theorem wait_closed (hT : TOk ops T) {L : Nat → Prop} (hd : ∀ j o, L j → ops[j]? = some o → ∀ p ∈ predsOf o.after.toList, L p) : ∀ (N j : Nat), j ≤ N → L j → ∀ i, inT T i j = true → (∃ o, ops[j]? = some o) → L i
  | N, j, hj, hL, i, hi, ⟨o, ho⟩ => by
    obtain ⟨l, h1, h2, h3⟩ := hT.row j o ho
    obtain ⟨l', g1, g2⟩ := inT_spec.1 hi
    rw [h1] at g1; injection g1 with g1; subst g1
    rcases h3 i g2 with h | ⟨p, h4, q, h5, h6⟩
    · exact hd j o hL ho i h
    · cases N with
      | zero => have := h2 p h4; omega
      | succ N =>
        have hlt := h2 p h4
        have hjs : j < ops.size := (Array.getElem?_eq_some_iff.1 ho).1
        exact wait_closed hT hd N p (by omega) (hd j o hL ho p h4) i (inT_spec.2 ⟨q, h5, h6⟩) ⟨ops[p], Array.getElem?_eq_getElem (by omega)⟩
theorem wait_ready (hT : TOk ops T) {L : Nat → Prop} (hd : ∀ j o, L j → ops[j]? = some o → ∀ p ∈ predsOf o.after.toList, L p) {j : Nat} {o : Oper} (ho : ops[j]? = some o) (hr : ∀ p ∈ predsOf o.after.toList, L p) {i : Nat}
    (hi : inT T i j = true) : L i := by
  obtain ⟨l, h1, h2, h3⟩ := hT.row j o ho
  obtain ⟨l', g1, g2⟩ := inT_spec.1 hi
  rw [h1] at g1; injection g1 with g1; subst g1
  rcases h3 i g2 with h | ⟨p, h4, q, h5, h6⟩
  · exact hr i h
  · have hlt := h2 p h4
    have hjs : j < ops.size := (Array.getElem?_eq_some_iff.1 ho).1
    exact wait_closed hT hd p p (Nat.le_refl _) (hr p h4) i (inT_spec.2 ⟨q, h5, h6⟩) ⟨ops[p], Array.getElem?_eq_getElem (by omega)⟩

theorem barRow_spec {T : List (List Nat)} {j : Nat} : ∀ {i c : Nat}, barRow T j i c = true → ∀ x, i ≤ x → x < i + c → inT T x j = true
  | i, 0, h, x, h1, h2 => by omega
  | i, c + 1, h, x, h1, h2 => by
    simp only [barRow, Bool.and_eq_true] at h
    by_cases e : x = i
    · subst e; exact h.1
    · exact barRow_spec h.2 x (by omega) (by omega)
theorem barAll_spec {T : List (List Nat)} {m b : Nat} : ∀ {j c : Nat}, barAll T m b j c = true → ∀ y, j ≤ y → y < j + c → ∀ i, i < b → inT T (m + i) y = true
  | j, 0, h, y, h1, h2 => by omega
  | j, c + 1, h, y, h1, h2 => by
    simp only [barAll, Bool.and_eq_true] at h
    intro i hi
    by_cases e : y = j
    · subst e; exact barRow_spec h.1 (m + i) (by omega) (by omega)
    · exact barAll_spec h.2 y (by omega) (by omega) i hi
theorem indepRow_spec {T : List (List Nat)} {i : Nat} {a : DR} : ∀ {j : Nat} {l : List DR}, indepRow T i a j l = true → ∀ (k : Nat) (d : DR), l[k]? = some d → inT T i (j + k) = true ∨ indep a d = true
  | j, [], h, k, d, hk => by simp at hk
  | j, x :: l, h, k, d, hk => by
    simp only [indepRow, Bool.and_eq_true, Bool.or_eq_true] at h
    cases k with
    | zero => simp at hk; subst hk; exact h.1
    | succ k =>
      have := indepRow_spec h.2 k d (by simpa using hk)
      rw [show j + (k + 1) = j + 1 + k by omega]; exact this
theorem indepAll_spec {T : List (List Nat)} : ∀ {i : Nat} {l : List DR}, indepAll T i l = true → ∀ (a b : Nat) (x y : DR), a < b → l[a]? = some x → l[b]? = some y → inT T (i + a) (i + b) = true ∨ indep x y = true
  | i, [], h, a, b, x, y, hab, ha, hb => by simp at ha
  | i, z :: l, h, a, b, x, y, hab, ha, hb => by
    simp only [indepAll, Bool.and_eq_true] at h
    cases a with
    | zero =>
      simp at ha; subst ha
      cases b with
      | zero => omega
      | succ b =>
        have := indepRow_spec h.1 b y (by simpa using hb)
        rw [Nat.add_zero, show i + (b + 1) = i + 1 + b by omega]; exact this
    | succ a =>
      cases b with
      | zero => omega
      | succ b =>
        have := indepAll_spec h.2 a b x y (by omega) (by simpa using ha) (by simpa using hb)
        rw [show i + (a + 1) = i + 1 + a by omega, show i + (b + 1) = i + 1 + b by omega]; exact this

/-- What one operation more owes to whoever keeps J, a say about the operations that are done. -/
def StepJ (P : Program) (ops : Array Oper) (T : List (List Nat)) (n m b : Nat) (dst : Nat → Option Tmp) (dd : List Deferred) (fb : Frame) (k : List Item) (fs : List Frame) (J : (Nat → Prop) → Env → Array Value → World → Prop) : Prop :=
  ∀ (X : Nat → Prop) (j : Nat), Closed T m b X → j < b → ¬ X j → (∀ i, i < b → inT T (m + i) (m + j) = true → X i) → ∀ (β : Env) (tmps : Array Value) (w : World), J X β tmps w → tmps.size = n → ∀ (r : List Nat),
    ∃ (β' : Env) (w' : World) (v : Value), β.le β' ∧ J (fun i => X i ∨ i = j) β' (Act.put ⟨tmps, dd⟩ (dst j) v).tmps w' ∧
      Steps P (lone (fb.atR ⟨tmps, dd⟩ (.inRegion ops ((m + j) :: r) :: k)) fs w) (lone (fb.atR (Act.put ⟨tmps, dd⟩ (dst j) v) (.inRegion ops r :: k)) fs w')
theorem blk_anyJ {dd : List Deferred} (hT : TOk ops T) {dst : Nat → Option Tmp} {J : (Nat → Prop) → Env → Array Value → World → Prop} 
    (hle : m + b ≤ ops.size) (hbar : ∀ y, m + b ≤ y → y < ops.size → ∀ i, i < b → inT T (m + i) y = true) (fb : Frame) (k : List Item) (fs : List Frame) (hstep : StepJ P ops T n m b dst dd fb k fs J) :
    ∀ (fuel t : Nat) (listed : Array Bool) (β : Env) (tmps : Array Value) (w : World), listed.size = ops.size → cntL ops.size listed = fuel → (∀ i, i < m → listed.getD i false = true) →
      (∀ i, m + b ≤ i → listed.getD i false = false) → (∀ j o, listed.getD j false = true → ops[j]? = some o → ∀ p ∈ predsOf o.after.toList, listed.getD p false = true) →
      J (fun i => i < b ∧ listed.getD (m + i) false = true) β tmps w → tmps.size = n →
      ∃ t' β' tmps' w', Steps P (lone (fb.atR ⟨tmps, dd⟩ (.inRegion ops (Region.linearise.go .any ops fuel t listed []) :: k)) fs w) (lone (fb.atR ⟨tmps', dd⟩ (.inRegion ops (goF ops (m + b) t') :: k)) fs w') ∧
        J (fun i => i < b) β' tmps' w' ∧ tmps'.size = n ∧ β.le β' := by
  intro fuel
  induction fuel with
  | zero =>
    intro t listed β tmps w hls hcnt hlo hhi hdn hI hsz
    have hall : ∀ i, i < b → listed.getD (m + i) false = true := by
      intro i hi
      cases hg : listed.getD (m + i) false with
      | true => rfl
      | false =>
        exfalso
        have hlt : m + i < ops.size := by omega
        have hgt : listed.getD (m + i) true = false := by
          rw [Array.getD_eq_getD_getElem?, Array.getElem?_eq_getElem (by omega)] at hg ⊢
          simpa using hg
        have := cnt_set hlt hls hgt
        omega
    have hlist : listed = listedTo ops.size (m + b) := by
      apply Array.ext (by simp [listedTo, hls])
      intro i h1 h2
      have e1 : listed.getD i false = listed[i] := by rw [Array.getD_eq_getD_getElem?, Array.getElem?_eq_getElem h1]; rfl
      have e2 : (listedTo ops.size (m + b)).getD i false = (listedTo ops.size (m + b))[i] := by rw [Array.getD_eq_getD_getElem?, Array.getElem?_eq_getElem h2]; rfl
      rw [← e1, ← e2, listedTo_get, if_pos (by omega)]
      by_cases hib : i < m + b
      · simp only [hib, decide_true]
        by_cases him : i < m
        · exact hlo i him
        · have := hall (i - m) (by omega); rw [show m + (i - m) = i by omega] at this; exact this
      · simp only [hib, decide_false]; exact hhi i (by omega)
    have hfu : 0 = ops.size - (m + b) := by rw [← cnt_to ops.size (m + b) hle, ← hlist]; exact hcnt.symm
    refine ⟨t, β, tmps, w, ?_, ?_, hsz, Env.le_refl _⟩
    · unfold goF; rw [← hfu, ← hlist]; exact .refl _ _
    · have : (fun i => i < b ∧ listed.getD (m + i) false = true) = (fun i => i < b) := by funext i; apply propext; exact ⟨fun h => h.1, fun h => ⟨h, hall i h⟩⟩
      rw [this] at hI; exact hI
  | succ fuel ih =>
    intro t listed β tmps w hls hcnt hlo hhi hdn hI hsz
    by_cases hall : ∀ i, i < b → listed.getD (m + i) false = true
    · have hlist : listed = listedTo ops.size (m + b) := by
        apply Array.ext (by simp [listedTo, hls])
        intro i h1 h2
        have e1 : listed.getD i false = listed[i] := by rw [Array.getD_eq_getD_getElem?, Array.getElem?_eq_getElem h1]; rfl
        have e2 : (listedTo ops.size (m + b)).getD i false = (listedTo ops.size (m + b))[i] := by rw [Array.getD_eq_getD_getElem?, Array.getElem?_eq_getElem h2]; rfl
        rw [← e1, ← e2, listedTo_get, if_pos (by omega)]
        by_cases hib : i < m + b
        · simp only [hib, decide_true]
          by_cases him : i < m
          · exact hlo i him
          · have := hall (i - m) (by omega); rw [show m + (i - m) = i by omega] at this; exact this
        · simp only [hib, decide_false]; exact hhi i (by omega)
      have hfu : fuel + 1 = ops.size - (m + b) := by rw [← cnt_to ops.size (m + b) hle, ← hlist]; exact hcnt.symm
      refine ⟨t, β, tmps, w, ?_, ?_, hsz, Env.le_refl _⟩
      · unfold goF; rw [← hfu, ← hlist]; exact .refl _ _
      · have : (fun i => i < b ∧ listed.getD (m + i) false = true) = (fun i => i < b) := by funext i; apply propext; exact ⟨fun h => h.1, fun h => ⟨h, hall i h⟩⟩
        rw [this] at hI; exact hI
    · -- the first that is not listed is ready
      have hex : ∃ i0, i0 < b ∧ listed.getD (m + i0) false = false ∧ ∀ i, i < i0 → listed.getD (m + i) false = true := by
        have : ∀ N, (∃ i, i < N ∧ i < b ∧ listed.getD (m + i) false = false) → ∃ i0, i0 < b ∧ listed.getD (m + i0) false = false ∧ ∀ i, i < i0 → listed.getD (m + i) false = true := by
          intro N
          induction N with
          | zero => rintro ⟨i, h, _⟩; omega
          | succ N ihN =>
            rintro ⟨i, h1, h2, h3⟩
            by_cases hsm : ∃ i, i < N ∧ i < b ∧ listed.getD (m + i) false = false
            · exact ihN hsm
            · have hiN : i = N := by
                rcases Nat.lt_or_ge i N with g | g
                · exact absurd ⟨i, g, h2, h3⟩ hsm
                · omega
              subst hiN
              refine ⟨i, h2, h3, fun i' hi' => ?_⟩
              cases hg : listed.getD (m + i') false with
              | true => rfl
              | false => exact absurd ⟨i', hi', by omega, hg⟩ hsm
        refine this b ?_
        apply Classical.byContradiction
        intro hno
        apply hall
        intro i hi
        cases hg : listed.getD (m + i) false with
        | true => rfl
        | false => exact absurd ⟨i, hi, hi, hg⟩ hno
      obtain ⟨i0, i1, i2, i3⟩ := hex
      have toTrue : ∀ i, i < ops.size → listed.getD i true = listed.getD i false := by
        intro i hi
        rw [Array.getD_eq_getD_getElem?, Array.getD_eq_getD_getElem?, Array.getElem?_eq_getElem (by omega)]; rfl
      have hr0 : m + i0 ∈ Region.ready .any ops listed := by
        rw [mem_ready]
        have hlt : m + i0 < ops.size := by omega
        refine ⟨by rw [toTrue _ hlt]; exact i2, ops[m + i0], Array.getElem?_eq_getElem hlt, fun e he hb => ?_⟩
        obtain ⟨l, _, g2, _⟩ := hT.row (m + i0) ops[m + i0] (Array.getElem?_eq_getElem hlt)
        have hp : e.on ∈ predsOf (ops[m + i0]).after.toList := predsOf_mem.2 ⟨e, by simpa using he, hb, rfl⟩
        have hlt2 := g2 e.on hp
        by_cases hm : e.on < m
        · exact hlo _ hm
        · have := i3 (e.on - m) (by omega)
          rw [show m + (e.on - m) = e.on by omega] at this; exact this
      obtain ⟨i, t', q1, q2, _⟩ := go_succ ops fuel t listed (fun e => by rw [e] at hr0; cases hr0)
      rw [mem_ready] at q1
      obtain ⟨q3, o, q4, q5⟩ := q1
      have hilt : i < ops.size := (Array.getElem?_eq_some_iff.1 q4).1
      have hnl : listed.getD i false = false := by rw [← toTrue i hilt]; exact q3
      have him : m ≤ i := by
        rcases Nat.lt_or_ge i m with g | g
        · rw [hlo i g] at hnl; cases hnl
        · exact g
      have hpr : ∀ p ∈ predsOf o.after.toList, listed.getD p false = true := by
        intro p hp
        obtain ⟨e, e1, e2, e3⟩ := predsOf_mem.1 hp
        rw [← e3]; exact q5 e (by simpa using e1) e2
      have hib : i < m + b := by
        rcases Nat.lt_or_ge i (m + b) with g | g
        · exact g
        · have := wait_ready hT (L := fun i => listed.getD i false = true) hdn q4 hpr (hbar i g hilt i0 i1)
          rw [i2] at this; cases this
      obtain ⟨j, rfl⟩ : ∃ j, i = m + j := ⟨i - m, by omega⟩
      have hj : j < b := by omega
      have hX : Closed T m b (fun i => i < b ∧ listed.getD (m + i) false = true) := by
        refine ⟨fun i h => h.1, fun i j' h hi hTT => ⟨hi, ?_⟩⟩
        exact wait_closed hT (L := fun i => listed.getD i false = true) hdn (m + j') (m + j') (Nat.le_refl _) h.2 (m + i) hTT ⟨ops[m + j'], Array.getElem?_eq_getElem (by have := h.1; omega)⟩
      have hjX : ¬ (fun i => i < b ∧ listed.getD (m + i) false = true) j := by
        rintro ⟨_, h⟩; rw [hnl] at h; cases h
      have hpre : ∀ i, i < b → inT T (m + i) (m + j) = true → (fun i => i < b ∧ listed.getD (m + i) false = true) i := by
        intro i hi hTT
        exact ⟨hi, wait_ready hT (L := fun i => listed.getD i false = true) hdn q4 hpr hTT⟩
      obtain ⟨β1, w1, v, d1, hI1, d4⟩ := hstep _ j hX hj hjX hpre β tmps w hI hsz (Region.linearise.go .any ops fuel t' (listed.setIfInBounds (m + j) true) [])
      have hset : ∀ x, (listed.setIfInBounds (m + j) true).getD x false = if x = m + j then true else listed.getD x false := by
        intro x
        by_cases e : x = m + j
        · subst e; simp [Array.getD_eq_getD_getElem?, Array.getElem?_setIfInBounds, hls, hilt]
        · rw [if_neg e, getD_set_ne false (Ne.symm e)]
      have hXeq : (fun i => (i < b ∧ listed.getD (m + i) false = true) ∨ i = j) = (fun i => i < b ∧ (listed.setIfInBounds (m + j) true).getD (m + i) false = true) := by
        funext x; apply propext
        rw [hset]
        constructor
        · rintro (⟨h1, h2⟩ | rfl)
          · refine ⟨h1, ?_⟩; split
            · rfl
            · exact h2
          · exact ⟨hj, by simp⟩
        · rintro ⟨h1, h2⟩
          split at h2
          · exact .inr (by omega)
          · exact .inl ⟨h1, h2⟩
      rw [hXeq] at hI1
      have hsz1 : (Act.put ⟨tmps, dd⟩ (dst j) v).tmps.size = n := by cases (dst j) <;> simp [Act.put, hsz]
      obtain ⟨t2, β2, tmps2, w2, s1, s2, s3, s4⟩ := ih t' (listed.setIfInBounds (m + j) true) β1 (Act.put ⟨tmps, dd⟩ (dst j) v).tmps w1 (by simp [hls]) (by have := cnt_set hilt hls q3; omega)
        (fun x hx => by rw [hset]; split <;> first | rfl | exact hlo x hx) (fun x hx => by rw [hset, if_neg (by omega)]; exact hhi x hx)
        (fun x o' hx ho p hp => by
          rw [hset] at hx ⊢
          split
          · rfl
          · split at hx
            · rename_i e; subst e
              rw [q4] at ho; injection ho with ho; subst ho
              exact hpr p hp
            · exact hdn x o' hx ho p hp) hI1 hsz1
      refine ⟨t2, β2, tmps2, w2, ?_, s2, s3, Env.le_trans d1 s4⟩
      rw [q2]
      refine Steps.trans d4 ?_
      rw [put_eq]; exact s1
end

section
variable {P : Program} {M : Mode} {ro : Hp} {B : Base} {f : FuncId} {R : Ending → World → Prop}

/-- The region begins. -/
theorem run_draw0 (hmix : P.follows .mixedOrders = true) {fn : FId} {n id : Nat} {sl : Slots} {ops : Array Oper} {k : List SI} {rest : List SFr} {hp : Hp} {nx : Nat}
    (h : ∀ t, Run P ro B f R ⟨⟨fn, n, sl, .reg ops 0 [] (some (goF ops 0 t)) :: k⟩, rest, hp, nx⟩) : Run P ro B f R ⟨⟨fn, n, sl, .code (.region id ops true) :: k⟩, rest, hp, nx⟩ := by
  intro β w fr frs cs hf hfs hs hcs
  have hst := stepR_region_draw (P := P) (b := fr) (a := ⟨fr.tmps, fr.defers⟩) (k := k.map SI.item) (cs := frs ++ cs) (w := w) (ops := ops) (id := id)
  have hsched : Region.schedule (P.follows .mixedOrders) ops (w.tape w.drawn (.order fr.fn id)) = goF ops 0 (w.tape w.drawn (.order fr.fn id)) := by
    unfold Region.schedule goF
    rw [hmix]
    simp only [Bool.true_or, if_true, Region.linearise, Nat.sub_zero]
    congr 1
    apply Array.ext (by simp [listedTo])
    intro i h1 h2
    simp [listedTo]
  rw [hsched] at hst
  have key := h (w.tape w.drawn (.order fr.fn id)) β { w with drawn := w.drawn + 1 } (fr.atR ⟨fr.tmps, fr.defers⟩ ((SI.reg ops 0 [] (some (goF ops 0 (w.tape w.drawn (.order fr.fn id)))) :: k).map SI.item)) frs cs
    (FrRel.of hf.fn hf.rnd hf.kind hf.defers hf.size hf.slot hf.lt (fun y hy => by
      cases hy with
      | head => intro i hi; simp at hi
      | tail _ hm => exact hf.ok y (List.mem_cons_of_mem _ hm))) hfs ⟨⟨hs.own, hs.apart, hs.read, hs.old, hs.os, hs.tape, hs.output, hs.size, hs.pin⟩, hs.fresh⟩
  obtain ⟨e, w2, fr2, hR, hc, r⟩ := key hcs
  refine ⟨e, w2, fr2, hR, .of_steps (.one ?_) hc, r⟩
  have := hf.at
  rw [this]
  exact hst

/-- A block of b operations from the m-th on, in whatever order: J is kept. -/
theorem run_drawJ (b : Nat) {fn : FId} {n : Nat} {sl sl' : Slots} {ops : Array Oper} {m t : Nat} {k : List SI} {rest : List SFr} {hp hp' : Hp} {nx nx' : Nat} {T : List (List Nat)} {dst : Nat → Option Tmp} {J : (Nat → Prop) → Env → Array Value → World → Prop}
    (hT : closeGo [] ops.toList = some T) (hle : Nat.ble (m + b) ops.size = true) (hbar : barAll T m b (m + b) (ops.size - (m + b)) = true)
    (hj0 : ∀ β tmps w, (∀ t v, look t sl = some v → Rel β v (tmps.getD t undef)) → Sat β hp ro B nx w → J (fun _ => False) β tmps w)
    (hjs : (∀ t v, look t sl = some v → t < n) → ∀ dd fb k fs, StepJ P ops T n m b dst dd fb k fs J)
    (hj1 : ∀ β tmps w, J (fun i => i < b) β tmps w → (∀ t v, look t sl' = some v → Rel β v (tmps.getD t undef)) ∧ Sat β hp' ro B nx' w) (hlt : (∀ t v, look t sl = some v → t < n) → ∀ t v, look t sl' = some v → t < n)
    (h : ∀ t, Run P ro B f R ⟨⟨fn, n, sl', .reg ops (m + b) [] (some (goF ops (m + b) t)) :: k⟩, rest, hp', nx'⟩) : Run P ro B f R ⟨⟨fn, n, sl, .reg ops m [] (some (goF ops m t)) :: k⟩, rest, hp, nx⟩ := by
  have hle := ble_nat hle
  have hbar' : ∀ y, m + b ≤ y → y < ops.size → ∀ i, i < b → inT T (m + i) y = true := fun y h1 h2 i hi => barAll_spec hbar y h1 (by omega) i hi
  intro β w fr frs cs' hf hfs hs hcs
  have hX0 : (fun i => i < b ∧ (listedTo ops.size m).getD (m + i) false = true) = fun _ => False := by
    funext i; apply propext
    constructor
    · rintro ⟨h3, h4⟩
      rw [listedTo_get] at h4; split at h4 <;> simp at h4 <;> omega
    · exact False.elim
  have hI : J (fun i => i < b ∧ (listedTo ops.size m).getD (m + i) false = true) β fr.tmps w := by rw [hX0]; exact hj0 β fr.tmps w hf.slot hs
  obtain ⟨t', β', tmps', w', s1, s2, s3, s4⟩ := blk_anyJ (dd := fr.defers) (tok_of hT) hle hbar' fr (k.map SI.item) (frs ++ cs') (hjs hf.lt fr.defers fr (k.map SI.item) (frs ++ cs')) (ops.size - m) t (listedTo ops.size m) β fr.tmps w (by simp [listedTo])
    (cnt_to _ _ (by omega)) (fun i hi => by rw [listedTo_get, if_pos (by omega)]; simp [hi]) (fun i hi => by rw [listedTo_get]; split <;> simp; omega)
    (fun j o hj ho p hp' => by
      rw [listedTo_get] at hj ⊢
      split at hj
      · simp at hj
        obtain ⟨_, _, g2, _⟩ := (tok_of hT).row j o ho
        have := g2 p hp'
        rw [if_pos (by omega)]; simp; omega
      · cases hj) hI hf.size
  obtain ⟨e1, hmem⟩ := hj1 β' tmps' w' s2
  have key := h t' β' w' (fr.atR ⟨tmps', fr.defers⟩ ((SI.reg ops (m + b) [] (some (goF ops (m + b) t')) :: k).map SI.item)) frs cs' (FrRel.of hf.fn hf.rnd hf.kind (hf.defers.mono s4) s3 e1 (hlt hf.lt) (fun y hy => by
      cases hy with
      | head => intro i hi; simp at hi
      | tail _ hm => exact hf.ok y (List.mem_cons_of_mem _ hm))) (hfs.mono s4) hmem
  obtain ⟨e, w2, fr2, hR, hcm, r⟩ := key hcs
  refine ⟨e, w2, fr2, hR, .of_steps ?_ hcm, r⟩
  have := hf.at
  rw [this]
  exact s1
section
variable {D : DRel} {n nx K m b : Nat} {Sl : Nat → Slots} {Hs : Nat → Hp} {dr : Nat → DR} {ops : Array Oper}
theorem inv_none (h : ∀ t v, look t (Sl 0) = some v → True) {β : Env} {tmps : Array Value} {w : World} (hsl : ∀ t v, look t (Sl 0) = some v → Rel β v (tmps.getD t undef)) (hs : Sat β (Hs 0) ro B nx w) :
    Inv b nx K Sl Hs dr ro B (fun _ => False) β tmps w := by
  have last0S : ∀ t k, LastS b dr (fun _ => False) t k → k = 0 := by
    rintro t k ⟨_, h2 | ⟨h3, _⟩, _⟩
    · exact h2
    · exact h3.elim
  have last0H : ∀ t k, LastH b dr (fun _ => False) t k → k = 0 := by
    rintro t k ⟨_, h2 | ⟨h3, _⟩, _⟩
    · exact h2
    · exact h3.elim
  refine ⟨?_, ?_, ?_, ?_, hs.read, hs.old, hs.os, hs.tape, hs.output, hs.size, hs.pin⟩
  · intro t k v hL hl
    have := last0S t k hL; subst this
    exact hsl t v hl
  · intro t k s hL hl
    have := last0H t k hL; subst this
    exact hs.own t s hl
  · intro t k s t' k' s' hL hl hL' hl' ls ls' hne
    have := last0H t k hL; subst this
    have := last0H t' k' hL'; subst this
    exact hs.apart t t' s s' hl hl' ls ls' hne
  · intro i bl hb
    left
    rcases Nat.lt_or_ge i nx with g | g
    · exact g
    · rw [hs.fresh i g] at hb; cases hb
theorem inv_all (hch : Chain D ops n nx m b Sl Hs dr) {β : Env} {tmps : Array Value} {w : World} (s2 : Inv b nx K Sl Hs dr ro B (fun i => i < b) β tmps w) : (∀ t v, look t (Sl b) = some v → Rel β v (tmps.getD t undef)) ∧ Sat β (Hs b) ro B (nx + b * K) w := by
  have lastAll : ∀ t, ∃ kk, LastS b dr (fun i => i < b) t kk ∧ look t (Sl kk) = look t (Sl b) := by
    intro t
    obtain ⟨kk, h1, h2, h3⟩ := last_before (fun i => (dr i).dst = some t) b
    refine ⟨kk, ⟨h1, ?_, ?_⟩, ?_⟩
    · by_cases hk : kk = 0
      · exact .inl hk
      · exact .inr ⟨by omega, h2.resolve_left hk⟩
    · intro i hi hd
      rcases Nat.lt_or_ge i kk with g | g
      · exact g
      · exact absurd hd (h3 i g hi)
    · have := keep_look hch t (b - kk) kk (by omega) (fun i g1 g2 => h3 i g1 (by omega))
      rw [show kk + (b - kk) = b by omega] at this; exact this.symm
  have lastAllH : ∀ t, ∃ kk, LastH b dr (fun i => i < b) t kk ∧ hget t (Hs kk) = hget t (Hs b) := by
    intro t
    obtain ⟨kk, h1, h2, h3⟩ := last_before (fun i => t ∈ (dr i).mod) b
    refine ⟨kk, ⟨h1, ?_, ?_⟩, ?_⟩
    · by_cases hk : kk = 0
      · exact .inl hk
      · exact .inr ⟨by omega, h2.resolve_left hk⟩
    · intro i hi hd
      rcases Nat.lt_or_ge i kk with g | g
      · exact g
      · exact absurd hd (h3 i g hi)
    · have := keep_hget hch t (b - kk) kk (by omega) (fun i g1 g2 => h3 i g1 (by omega))
      rw [show kk + (b - kk) = b by omega] at this; exact this.symm
  refine ⟨fun t v ht => ?_, ⟨⟨?_, ?_, s2.read, s2.old, s2.os, s2.tape, s2.output, s2.size, s2.pin⟩, ?_⟩⟩
  · obtain ⟨kk, k1, k2⟩ := lastAll t
    exact s2.S t kk v k1 (by rw [k2]; exact ht)
  · intro t s ht
    obtain ⟨kk, k1, k2⟩ := lastAllH t
    exact s2.H t kk s k1 (by rw [k2]; exact ht)
  · intro t u s s' ht hu hne
    obtain ⟨kk, k1, k2⟩ := lastAllH t
    obtain ⟨kk', k1', k2'⟩ := lastAllH u
    exact s2.A t kk s u kk' s' k1 (by rw [k2]; exact ht) k1' (by rw [k2']; exact hu) hne
  · intro i hi
    cases hb' : β i with
    | none => rfl
    | some bl =>
      rcases s2.F i bl hb' with h | ⟨j, c, h1, h2, h3⟩
      · have := Nat.le_add_right nx (b * K); omega
      · exfalso
        have h4 : (c + 1) * b ≤ K * b := Nat.mul_le_mul_right b h2
        rw [Nat.add_mul, Nat.mul_comm K b] at h4
        omega
end
/-- A block of b operations from the m-th on, in whatever order. -/
theorem run_draw (b : Nat) (hP : Named P) (hB : B.ok) (hM : SumOk P M.sum) {fn : FId} {n : Nat} {sl sl' : Slots} {ops : Array Oper} {m t : Nat} {k : List SI} {rest : List SFr} {hp hp' : Hp} {nx : Nat} {T : List (List Nat)} {cs : List Prop} {l : List DR}
    (hT : closeGo [] ops.toList = some T) (hb : dblk P M ro ops n ((ops.toList.drop m).take b) nx sl hp [] = some (cs, sl', hp', l)) (hle : Nat.ble (m + b) ops.size = true) (hi : indepAll T m l = true)
    (hbar : barAll T m b (m + b) (ops.size - (m + b)) = true) (hc : conj cs)
    (h : ∀ t, Run P ro B f R ⟨⟨fn, n, sl', .reg ops (m + b) [] (some (goF ops (m + b) t)) :: k⟩, rest, hp', nx + b⟩) : Run P ro B f R ⟨⟨fn, n, sl, .reg ops m [] (some (goF ops m t)) :: k⟩, rest, hp, nx⟩ := by
  have hle' := ble_nat hle
  have hlen : ((ops.toList.drop m).take b).length = b := by simp; omega
  obtain ⟨_, Sl, Hs, dr, c1, c2, c3, c4, hch, c5⟩ := dblk_chain (m := m) hb (all_conj hc) (fun i hi => by
    rw [hlen] at hi
    rw [List.getElem?_take, if_pos hi, List.getElem?_drop]; simp)
  rw [hlen] at c3 c4 hch c5
  have hin : Indeps T m b dr := fun i j hij hj hT0 => by
    rcases indepAll_spec hi i j (dr i) (dr j) hij (c5 i (by omega)) (c5 j hj) with h | h
    · rw [h] at hT0; cases hT0
    · exact h
  refine run_drawJ b (nx' := nx + b) (dst := fun j => (dr j).dst) (J := fun X β tmps w => Inv b nx 1 Sl Hs dr ro B X β tmps w) hT hle hbar (fun β tmps w h1 h2 => inv_none (fun _ _ _ => trivial) (by rw [c1]; exact h1) (by rw [c2]; exact h2))
    (fun hlt dd fb k fs X j hX hj hjX hpre β tmps w hI hsz r => ?_) (fun β tmps w hI => by have := inv_all hch hI; rw [c3, c4, Nat.mul_one] at this; exact this)
    (fun hlt => by rw [← c3]; exact chain_lt hch (by rw [c1]; exact hlt) b (Nat.le_refl _)) h
  obtain ⟨β1, w1, v, d1, d2, d4⟩ := op_did hP hM hch hin (by rw [c1]; exact hlt) hX hj hjX hpre hI hsz fb k fs r
  exact ⟨β1, w1, v, d1.le, inv_step hB hch hin hX hj hjX hpre hI hsz (fun i hi => ⟨0, Nat.one_pos, by simpa using hi⟩) d1 d2, d4⟩

/-- One operation for which all later ones wait: it is the next. -/
theorem goF_one {ops : Array Oper} {m t : Nat} {T : List (List Nat)} (hT : TOk ops T) (hm : m < ops.size) (hbar : ∀ y, m + 1 ≤ y → y < ops.size → inT T m y = true) : goF ops m t = m :: goF ops (m + 1) t := by
  have hr : Region.ready .any ops (listedTo ops.size m) = [m] := by
    have hmem : ∀ i, i ∈ Region.ready .any ops (listedTo ops.size m) ↔ i = m := by
      intro i
      rw [mem_ready]
      constructor
      · rintro ⟨h1, o, h2, h3⟩
        have hi : i < ops.size := (Array.getElem?_eq_some_iff.1 h2).1
        rw [listedTo_get, if_pos hi] at h1
        simp at h1
        rcases Nat.eq_or_lt_of_le h1 with g | g
        · exact g.symm
        · exfalso
          have hw := wait_ready hT (L := fun i => (listedTo ops.size m).getD i false = true) (fun j o hj ho p hp => by
            rw [listedTo_get] at hj ⊢
            split at hj
            · simp at hj
              obtain ⟨_, _, g2, _⟩ := hT.row j o ho
              have := g2 p hp
              rw [if_pos (by omega)]; simp; omega
            · cases hj) h2 (fun p hp => by
              obtain ⟨e, e1, e2, e3⟩ := predsOf_mem.1 hp
              rw [← e3]; exact h3 e (by simpa using e1) e2) (hbar i (by omega) hi)
          rw [listedTo_get, if_pos hm] at hw; simp at hw
      · rintro rfl
        refine ⟨by rw [listedTo_get, if_pos hm]; simp, ops[i], Array.getElem?_eq_getElem hm, fun e he hb => ?_⟩
        obtain ⟨l, _, g2, _⟩ := hT.row i ops[i] (Array.getElem?_eq_getElem hm)
        have := g2 e.on (predsOf_mem.2 ⟨e, by simpa using he, hb, rfl⟩)
        rw [listedTo_get, if_pos (by omega)]; simp; omega
    have hnd : (Region.ready .any ops (listedTo ops.size m)).Nodup := by unfold Region.ready; exact List.nodup_range.sublist List.filter_sublist
    generalize Region.ready .any ops (listedTo ops.size m) = l at hmem hnd
    match l, hmem, hnd with
    | [], hmem, _ => have := (hmem m).2 rfl; cases this
    | [a], hmem, _ => have := (hmem a).1 (List.mem_cons_self ..); rw [this]
    | a :: c :: l, hmem, hnd =>
      have h1 := (hmem a).1 (List.mem_cons_self ..)
      have h2 := (hmem c).1 (List.mem_cons_of_mem _ (List.mem_cons_self ..))
      subst h1; subst h2; simp at hnd
  obtain ⟨i, t', q1, q2, q3⟩ := go_succ ops (ops.size - m - 1) t (listedTo ops.size m) (by rw [hr]; simp)
  rw [hr] at q1
  simp at q1; subst q1
  have q3 := q3 hr; subst q3
  unfold goF
  rw [show ops.size - i = ops.size - i - 1 + 1 by omega, q2, show ops.size - (i + 1) = ops.size - i - 1 by omega]
  congr 2
  apply Array.ext (by simp [listedTo])
  intro x h1 h2
  simp only [listedTo, Array.size_map, Array.size_range] at h2
  by_cases e : x = i
  · subst e; simp [listedTo]
  · have e2 : (x < i) = (x < i + 1) := by apply propext; omega
    rw [Array.getElem_setIfInBounds, if_neg (Ne.symm e)]
    · simp [listedTo, e2]
    · simpa [listedTo] using h2

/-- The region's end. -/
theorem run_drawE {fn : FId} {n : Nat} {sl : Slots} {ops : Array Oper} {m t : Nat} {k : List SI} {rest : List SFr} {hp : Hp} {nx : Nat} (hm : Nat.beq m ops.size = true)
    (h : Run P ro B f R ⟨⟨fn, n, sl, .reg ops m [] none :: k⟩, rest, hp, nx⟩) : Run P ro B f R ⟨⟨fn, n, sl, .reg ops m [] (some (goF ops m t)) :: k⟩, rest, hp, nx⟩ := by
  have hm := beq_nat hm
  have hg : goF ops m t = [] := by unfold goF; rw [hm]; simp [Region.linearise.go]
  rw [hg]
  intro β w fr frs cs hf hfs hs
  refine h β w fr frs cs { hf with todo := hf.todo, ok := ?_ } hfs hs
  intro y hy
  cases hy with
  | head => intro i hi; simp at hi
  | tail _ hm => exact hf.ok y (List.mem_cons_of_mem _ hm)
end
end Sx
end
section
namespace Sx
open Go

/-- The name of the i-th known block: the list's, or a new one from nx on. -/
def sig (nx : Nat) (sg : List Nat) (i : Nat) : Nat :=
  match nth sg i with
  | some j => j
  | none => nx + (i - sg.length)

mutual
def renF {α : Type} (nx : Nat) (sg : List Nat) : SV → (SV → α) → α
  | .int k n, f => f (.int k n)
  | .tt, f => f .tt
  | .ff, f => f .ff
  | .sb b, f => f (.sb b)
  | .cnd g v, f => renF nx sg v fun v => f (.cnd g v)
  | .ptr i off, f => natF (sig nx sg i) fun i => f (.ptr i off)
  | .ep i off e sz k, f => natF (sig nx sg i) fun i => f (.ep i off e sz k)
  | .nil, f => f .nil
  | .sl i off s sz len cap, f => natF (sig nx sg i) fun i => f (.sl i off s sz len cap)
  | .sq i off s sz len ap, f => natF (sig nx sg i) fun i => f (.sq i off s sz len ap)
  | .nilsl, f => f .nilsl
  | .mp i, f => natF (sig nx sg i) fun i => f (.mp i)
  | .nilmp, f => f .nilmp
  | .agg vs, f => renFL nx sg vs fun vs => f (.agg vs)
  | .tup vs, f => renFL nx sg vs fun vs => f (.tup vs)
  | .clo fn a c, f => renFL nx sg a fun a => renFL nx sg c fun c => f (.clo fn a c)
  | .nilf, f => f .nilf
  | .ifc t v, f => renF nx sg v fun v => f (.ifc t v)
  | .nilif, f => f .nilif
  | .str s, f => f (.str s)
  | .val v, f => f (.val v)
  | .und, f => f .und
def renFL {α : Type} (nx : Nat) (sg : List Nat) : List SV → (List SV → α) → α
  | [], f => f []
  | v :: vs, f => renF nx sg v fun v => renFL nx sg vs fun vs => f (v :: vs)
end
/-- The value under the other names. -/
def ren (nx : Nat) (sg : List Nat) (v : SV) : SV := renF nx sg v id
def renL (nx : Nat) (sg : List Nat) (vs : List SV) : List SV := renFL nx sg vs id

mutual
theorem renF_eq {α : Type} (nx : Nat) (sg : List Nat) : ∀ (v : SV) (f : SV → α), renF nx sg v f = f (ren nx sg v)
  | .int .., f | .tt, f | .ff, f | .sb .., f | .nil, f | .nilsl, f | .nilmp, f | .nilf, f | .nilif, f | .str .., f | .val .., f | .und, f => by simp only [ren, renF, id]
  | .ptr .., f | .ep .., f | .sl .., f | .sq .., f | .mp .., f => by simp only [ren, renF, natF_eq, id]
  | .cnd g v, f => by simp only [ren, renF]; rw [renF_eq nx sg v, renF_eq nx sg v]; rfl
  | .ifc t v, f => by simp only [ren, renF]; rw [renF_eq nx sg v, renF_eq nx sg v]; rfl
  | .agg vs, f => by simp only [ren, renF]; rw [renFL_eq nx sg vs, renFL_eq nx sg vs]; rfl
  | .tup vs, f => by simp only [ren, renF]; rw [renFL_eq nx sg vs, renFL_eq nx sg vs]; rfl
  | .clo fn a c, f => by simp only [ren, renF]; rw [renFL_eq nx sg a, renFL_eq nx sg a, renFL_eq nx sg c, renFL_eq nx sg c]; rfl
theorem renFL_eq {α : Type} (nx : Nat) (sg : List Nat) : ∀ (vs : List SV) (f : List SV → α), renFL nx sg vs f = f (renL nx sg vs)
  | [], f => by simp only [renL, renFL, id]
  | v :: vs, f => by simp only [renL, renFL]; rw [renF_eq nx sg v, renF_eq nx sg v, renFL_eq nx sg vs, renFL_eq nx sg vs]; rfl
end
theorem renL_cons (nx : Nat) (sg : List Nat) (v : SV) (vs : List SV) : renL nx sg (v :: vs) = ren nx sg v :: renL nx sg vs := by
  rw [renL, renFL, renF_eq, renFL_eq]; rfl
theorem renL_nil (nx : Nat) (sg : List Nat) : renL nx sg [] = [] := by simp only [renL, renFL, id]

/-- The places under the other names. -/
def Env.via (β : Env) (nx : Nat) (sg : List Nat) : Env := ⟨fun i => β (sig nx sg i), fun i => β.room (sig nx sg i)⟩

mutual
theorem ren_rel {β : Env} {nx : Nat} {sg : List Nat} : ∀ (s : SV) (v : Value), Rel β (ren nx sg s) v ↔ Rel (β.via nx sg) s v
  | .int .., v | .tt, v | .ff, v | .sb .., v | .nil, v | .nilsl, v | .nilmp, v | .nilf, v | .nilif, v | .str .., v | .val .., v | .und, v => by simp only [ren, renF, id, Rel]
  | .ptr .., v | .ep .., v | .sl .., v | .sq .., v | .mp .., v => by simp only [ren, renF, natF_eq, id, Rel, Env.via]
  | .cnd g s, v => by
    rw [show ren nx sg (.cnd g s) = .cnd g (ren nx sg s) by rw [ren, renF, renF_eq]; rfl]
    simp only [Rel, ren_rel s v]
  | .ifc t s, v => by
    rw [show ren nx sg (.ifc t s) = .ifc t (ren nx sg s) by rw [ren, renF, renF_eq]; rfl]
    simp only [Rel]
    constructor
    · rintro ⟨u, h1, h2⟩; exact ⟨u, h1, (ren_rel s u).1 h2⟩
    · rintro ⟨u, h1, h2⟩; exact ⟨u, h1, (ren_rel s u).2 h2⟩
  | .agg vs, v => by
    rw [show ren nx sg (.agg vs) = .agg (renL nx sg vs) by rw [ren, renF, renFL_eq]; rfl]
    simp only [Rel]
    constructor
    · rintro ⟨u, h1, h2⟩; exact ⟨u, h1, (renL_rel vs u).1 h2⟩
    · rintro ⟨u, h1, h2⟩; exact ⟨u, h1, (renL_rel vs u).2 h2⟩
  | .tup vs, v => by
    rw [show ren nx sg (.tup vs) = .tup (renL nx sg vs) by rw [ren, renF, renFL_eq]; rfl]
    simp only [Rel]
    constructor
    · rintro ⟨u, h1, h2⟩; exact ⟨u, h1, (renL_rel vs u).1 h2⟩
    · rintro ⟨u, h1, h2⟩; exact ⟨u, h1, (renL_rel vs u).2 h2⟩
  | .clo fn a c, v => by
    rw [show ren nx sg (.clo fn a c) = .clo fn (renL nx sg a) (renL nx sg c) by rw [ren, renF, renFL_eq, renFL_eq]; rfl]
    simp only [Rel]
    constructor
    · rintro ⟨u, x, h1, h2, h3⟩; exact ⟨u, x, h1, (renL_rel a u).1 h2, (renL_rel c x).1 h3⟩
    · rintro ⟨u, x, h1, h2, h3⟩; exact ⟨u, x, h1, (renL_rel a u).2 h2, (renL_rel c x).2 h3⟩
theorem renL_rel {β : Env} {nx : Nat} {sg : List Nat} : ∀ (s : List SV) (v : List Value), RelL β (renL nx sg s) v ↔ RelL (β.via nx sg) s v
  | [], v => by rw [renL_nil]; simp only [RelL]
  | s :: ss, v => by
    rw [renL_cons]
    simp only [RelL]
    constructor
    · rintro ⟨u, us, h1, h2, h3⟩; exact ⟨u, us, h1, (ren_rel s u).1 h2, (renL_rel ss us).1 h3⟩
    · rintro ⟨u, us, h1, h2, h3⟩; exact ⟨u, us, h1, (ren_rel s u).2 h2, (renL_rel ss us).2 h3⟩
end

/-- v says no more than u. -/
def Less (v u : SV) : Prop := ∀ (β : Env) (x : Value), Rel β u x → Rel β v x
theorem Less.rfl {v : SV} : Less v v := fun _ _ h => h
theorem less_rfl (v : SV) : Less v v ↔ True := ⟨fun _ => trivial, fun _ => Less.rfl⟩
theorem Less.of {v u : SV} (h : v = u) : Less v u := h ▸ Less.rfl

mutual
/-- The first word says no more than the second. -/
def apLe : Ap → Ap → Bool
  | .no, _ => true
  | .own, .own => true
  | .full, .full => true
  | _, _ => false
/-- What is owed for the first to say no more than the second. -/
def eqV : SV → SV → Option (List Prop)
  | .und, _ => some []
  | .int k a, .int k' b => bif keq k k' then some [a = b] else none
  | .tt, .tt => some []
  | .tt, .sb b => some [b = true]
  | .ff, .ff => some []
  | .ff, .sb b => some [b = false]
  | .sb a, .sb b => some [a = b]
  | .sb a, .tt => some [a = true]
  | .sb a, .ff => some [a = false]
  | .ptr i off, .ptr i' off' => bif Nat.beq i i' then some [off = off'] else none
  | .ep i off e sz k, .ep i' off' e' sz' k' => bif Nat.beq i i' then some [off = off' ∧ e = e' ∧ sz = sz' ∧ k = k'] else none
  | .nil, .nil => some []
  | .sl i off s sz len cap, .sl i' off' s' sz' len' cap' => bif Nat.beq i i' then some [off = off' ∧ s = s' ∧ sz = sz', len = len', cap = cap'] else none
  | .sq i off s sz len ap, .sq i' off' s' sz' len' ap' => bif apLe ap ap' then (bif Nat.beq i i' then some [off = off' ∧ s = s' ∧ sz = sz', len = len'] else some [len = 0 ∧ len' = 0]) else none
  | .sq _ _ _ _ len _, .nilsl => some [len = 0]
  | .sq i off s sz len .no, .sl i' off' s' sz' len' _ => bif Nat.beq i i' then some [off = off' ∧ s = s' ∧ sz = sz', len = len'] else none
  | .nilsl, .nilsl => some []
  | .mp i, .mp i' => bif Nat.beq i i' then some [] else none
  | .nilmp, .nilmp => some []
  | .agg vs, .agg us => eqL vs us
  | .tup vs, .tup us => eqL vs us
  | .clo fn a c, .clo fn' a' c' => match eqL a a', eqL c c' with
    | some x, some y => some ((fn = fn') :: x ++ y)
    | _, _ => none
  | .nilf, .nilf => some []
  | .ifc t v, .ifc t' v' => match eqV v v' with
    | some x => some ((t = t') :: x)
    | none => none
  | .nilif, .nilif => some []
  | .str s, .str s' => some [s = s']
  | .val v, .val v' => some [v = v']
  | _, _ => none
def eqL : List SV → List SV → Option (List Prop)
  | [], [] => some []
  | v :: vs, u :: us => match eqV v u, eqL vs us with
    | some x, some y => some (x ++ y)
    | _, _ => none
  | _, _ => none
end
theorem keq_spec {a b : IntKind} (h : keq a b = true) : a = b := by
  unfold keq at h
  split at h <;> first | rfl | exact absurd h (by simp)
mutual
theorem eqV_less : ∀ (v u : SV) (cs : List Prop), eqV v u = some cs → All cs → Less v u := by
  intro v u cs h hc β x hx
  match v, u with
  | .und, _ => trivial
  | .int k a, .int k' b =>
    obtain ⟨h1, rfl⟩ := bif_some h
    rw [keq_spec h1, show a = b from hc.head]; exact hx
  | .tt, .tt => exact hx
  | .tt, .sb b => injection h with h; subst h; rw [show b = true from hc.head] at hx; exact hx
  | .ff, .ff => exact hx
  | .ff, .sb b => injection h with h; subst h; rw [show b = false from hc.head] at hx; exact hx
  | .sb a, .sb b => injection h with h; subst h; rw [show a = b from hc.head]; exact hx
  | .sb a, .tt => injection h with h; subst h; rw [show a = true from hc.head]; exact hx
  | .sb a, .ff => injection h with h; subst h; rw [show a = false from hc.head]; exact hx
  | .ptr i off, .ptr i' off' =>
    obtain ⟨h1, rfl⟩ := bif_some h
    rw [beq_nat h1, show off = off' from hc.head]; exact hx
  | .ep i off e sz k, .ep i' off' e' sz' k' =>
    obtain ⟨h1, rfl⟩ := bif_some h
    obtain ⟨rfl, rfl, rfl, rfl⟩ := hc.head
    rw [beq_nat h1]; exact hx
  | .nil, .nil => exact hx
  | .sl i off s sz len cap, .sl i' off' s' sz' len' cap' =>
    obtain ⟨h1, rfl⟩ := bif_some h
    obtain ⟨rfl, rfl, rfl⟩ := hc.head
    have h2 : len = len' := hc _ (by simp)
    have h3 : cap = cap' := hc _ (by simp)
    subst h2 h3
    rw [beq_nat h1]; exact hx
  | .nilsl, .nilsl => exact hx
  | .sq i off s sz len ap, .sq i' off' s' sz' len' ap' =>
    have h' : (bif apLe ap ap' then (bif Nat.beq i i' then some [off = off' ∧ s = s' ∧ sz = sz', len = len'] else some [len = 0 ∧ len' = 0]) else none) = some cs := h
    clear h
    obtain ⟨hap, h⟩ := bif_some' h'
    cases hb : Nat.beq i i' with
    | false =>
      rw [hb] at h
      injection h with h
      subst h
      obtain ⟨rfl, rfl⟩ := hc.head
      obtain ⟨base, room, e, g1, g2, g3, g4⟩ := hx
      refine ⟨base, room, e, g1, fun hh => ?_, fun hh => ?_, fun hl => absurd hl (Nat.lt_irrefl _)⟩
      · subst hh; cases ap' <;> first | exact g2 rfl | (simp [apLe] at hap)
      · subst hh; cases ap' <;> first | exact g3 rfl | (simp [apLe] at hap)
    | true =>
    rw [hb] at h
    injection h with h
    subst h
    obtain ⟨rfl, rfl, rfl⟩ := hc.head
    obtain rfl : len = len' := hc.tail.head
    have h2 := beq_nat hb; subst h2
    obtain ⟨base, room, e, g1, g2, g3, g4⟩ := hx
    refine ⟨base, room, e, g1, fun hh => ?_, fun hh => ?_, fun hl => ⟨(g4 hl).1, ?_⟩⟩
    · subst hh; cases ap' <;> first | exact g2 rfl | (simp [apLe] at hap)
    · subst hh; cases ap' <;> first | exact g3 rfl | (simp [apLe] at hap)
    · obtain ⟨b, b1, b2, b3⟩ := (g4 hl).2
      refine ⟨b, b1, b2, fun hh => ?_⟩
      subst hh; cases ap' <;> first | exact b3 rfl | (simp [apLe] at hap)
  | .sq i off s sz len ap, .nilsl =>
    simp only [eqV, Option.some.injEq] at h
    subst h
    have h0 : len = 0 := hc.head
    subst h0
    simp only [Rel] at hx; subst hx
    exact ⟨none, 0, rfl, fun _ => rfl, fun _ => ⟨fun _ => rfl, Nat.zero_le _⟩, fun _ => rfl, fun hh => by omega⟩
  | .sq i off s sz len .no, .sl i' off' s' sz' len' cap' =>
    obtain ⟨h1, rfl⟩ := bif_some h
    obtain ⟨rfl, rfl, rfl⟩ := hc.head
    obtain rfl : len = len' := hc.tail.head
    have h2 := beq_nat h1; subst h2
    obtain ⟨b, o, b1, room, rfl, b2, b3, b4⟩ := hx
    exact ⟨some ⟨b, o, none⟩, room, rfl, fun hh => (by simp at hh), fun hh => (by cases hh), fun hh => (by cases hh), fun hl => ⟨by omega, b, b1, by rw [b4 (by omega)], fun hh => (by cases hh)⟩⟩
  | .mp i, .mp i' =>
    obtain ⟨h1, rfl⟩ := bif_some h
    rw [beq_nat h1]; exact hx
  | .nilmp, .nilmp => exact hx
  | .agg vs, .agg us =>
    obtain ⟨ys, rfl, hy⟩ := hx
    exact ⟨ys, rfl, eqL_less vs us cs h hc β ys hy⟩
  | .tup vs, .tup us =>
    obtain ⟨ys, rfl, hy⟩ := hx
    exact ⟨ys, rfl, eqL_less vs us cs h hc β ys hy⟩
  | .clo fn a c, .clo fn' a' c' =>
    simp only [eqV] at h
    split at h <;> first | exact (none_ne h).elim | skip
    rename_i p q h1 h2
    injection h with h; subst h
    obtain ⟨ys, zs, rfl, hy, hz⟩ := hx
    have hfn : fn = fn' := hc _ (by simp)
    subst hfn
    exact ⟨ys, zs, rfl, eqL_less a a' p h1 (fun r hr => hc r (by simp [hr])) β ys hy, eqL_less c c' q h2 (fun r hr => hc r (by simp [hr])) β zs hz⟩
  | .nilf, .nilf => exact hx
  | .ifc t v, .ifc t' v' =>
    simp only [eqV] at h
    split at h <;> first | exact (none_ne h).elim | skip
    rename_i p h1
    injection h with h; subst h
    obtain ⟨y, rfl, hy⟩ := hx
    have ht : t = t' := hc _ (by simp)
    subst ht
    exact ⟨y, rfl, eqV_less v v' p h1 (fun r hr => hc r (by simp [hr])) β y hy⟩
  | .nilif, .nilif => exact hx
  | .str s, .str s' => injection h with h; subst h; rw [show s = s' from hc.head]; exact hx
  | .val v, .val v' => injection h with h; subst h; rw [show v = v' from hc.head]; exact hx
theorem eqL_less : ∀ (v u : List SV) (cs : List Prop), eqL v u = some cs → All cs → ∀ (β : Env) (x : List Value), RelL β u x → RelL β v x := by
  intro v u cs h hc β x hx
  match v, u with
  | [], [] => exact hx
  | v :: vs, u :: us =>
    simp only [eqL] at h
    split at h <;> first | exact (none_ne h).elim | skip
    rename_i p q h1 h2
    injection h with h; subst h
    obtain ⟨y, ys, rfl, hy, hys⟩ := hx
    exact ⟨y, ys, rfl, eqV_less v u p h1 hc.left β y hy, eqL_less vs us q h2 hc.right β ys hys⟩
end
end Sx
end
section
namespace Sx
open Go

/-- A row under the other names. -/
def renR (nx : Nat) (sg : List Nat) (f : Nat → Nat → SV) : Nat → Nat → SV := fun i k => ren nx sg (f i k)
def renS {α : Type} (nx : Nat) (sg : List Nat) : Slots → (Slots → α) → α
  | [], f => f []
  | (t, v) :: r, f => renF nx sg v fun v => renS nx sg r fun r => f ((t, v) :: r)
def renS' (nx : Nat) (sg : List Nat) : Slots → Slots
  | [] => []
  | (t, v) :: r => (t, ren nx sg v) :: renS' nx sg r
theorem renS_eq {α : Type} (nx : Nat) (sg : List Nat) : ∀ (s : Slots) (f : Slots → α), renS nx sg s f = f (renS' nx sg s)
  | [], f => rfl
  | (t, v) :: r, f => by rw [renS, renF_eq, renS_eq nx sg r]; rfl
theorem renS_look {nx : Nat} {sg : List Nat} {t : Nat} {v : SV} : ∀ {s : Slots}, look t (renS' nx sg s) = some v → ∃ u, look t s = some u ∧ v = ren nx sg u
  | [], h => by cases h
  | (i, x) :: r, h => by
    simp only [renS', look] at h
    simp only [look]
    cases hb : Nat.beq t i with
    | true => rw [hb] at h; injection h with h; exact ⟨x, rfl, h.symm⟩
    | false => rw [hb] at h; exact renS_look h
/-- A map's values under the other names. -/
def renE {α : Type} (nx : Nat) (sg : List Nat) (E : MEl) (f : MEl → α) : α :=
  match E with
  | .ints r v => f (.ints r v)
  | .any e => f (.any fun a => ren nx sg (e a))
  | .vals V => f (.vals V)
  | .recs r g V => f (.recs r g V)
theorem renE_eq {α : Type} (nx : Nat) (sg : List Nat) (E : MEl) (f : MEl → α) : renE nx sg E f = f (renE nx sg E id) := by cases E <;> rfl
theorem renE_at {nx : Nat} {sg : List Nat} (E : MEl) {β : Env} {a : Int} {v : Value} : Rel β ((renE nx sg E id).at a) v ↔ Rel (β.via nx sg) (E.at a) v := by
  cases E with
  | ints r f => exact Iff.rfl
  | any e => exact ren_rel _ _
  | vals V => exact Iff.rfl
  | recs r f V => exact Iff.rfl
theorem renE_rel {β : Env} {nx : Nat} {sg : List Nat} {q : IntKind} {h : Int → Bool} {E : MEl} {es : Array MapEntry} {c : Nat} : MRel β q h (renE nx sg E id) es c ↔ MRel (β.via nx sg) q h E es c :=
  ⟨fun r => ⟨r.st, fun x hx => let ⟨a, h1, h2, h3⟩ := r.ent x hx; ⟨a, h1, h2, (renE_at E).1 h3⟩, r.has⟩, fun r => ⟨r.st, fun x hx => let ⟨a, h1, h2, h3⟩ := r.ent x hx; ⟨a, h1, h2, (renE_at E).2 h3⟩, r.has⟩⟩
def renO {α : Type} (nx : Nat) (sg : List Nat) (s : SO) (f : SO → α) : α :=
  match s with
  | .cells vs ty => renFL nx sg vs fun vs => f (.cells vs ty)
  | .row off n cap sz g ty => f (.row off n cap sz (renR nx sg g) ty)
  | .obj o => f (.obj o)
  | .lp st pe fn n sl ps a b D => renS nx sg sl fun sl => f (.lp st pe fn n sl ps a b D)
  | .map q h E => renE nx sg E fun E => f (.map q h E)
  | .mape q h E es c => renE nx sg E fun E => f (.mape q h E es c)
  | .mit i a b c => natF (sig nx sg i) fun i => f (.mit i a b c)
  | .prow off p sz g ty => f (.prow off p sz (renR nx sg g) ty)
  | .arr pre n sz g post ty => renFL nx sg pre fun pre => renFL nx sg post fun post => f (.arr pre n sz (renR nx sg g) post ty)
theorem renO_eq {α : Type} (nx : Nat) (sg : List Nat) (s : SO) (f : SO → α) : renO nx sg s f = f (renO nx sg s id) := by
  cases s <;> simp only [renO, renFL_eq, renS_eq, natF_eq, id] <;> (rename MEl => E; cases E <;> rfl)
theorem renO_rel {β : Env} {nx : Nat} {sg : List Nat} {s : SO} {o : Obj} (h : ORel (β.via nx sg) s o) : ORel β (renO nx sg s id) o := by
  cases s with
  | cells vs ty => obtain ⟨us, e, hl⟩ := h; simp only [renO, renFL_eq, id]; exact ⟨us, e, (renL_rel _ _).2 hl⟩
  | row off n cap sz f ty => obtain ⟨c, fz, tt, ht, e, h1, h2, h3⟩ := h; exact ⟨c, fz, tt, ht, e, h1, h2, fun i k hi hk => let ⟨u, hu, hr⟩ := h3 i k hi hk; ⟨u, hu, (ren_rel _ _).2 hr⟩⟩
  | obj o' => exact h
  | lp st pe fn n sl ps a b D =>
    obtain ⟨tmps, e, h1, h2, h3⟩ := h
    simp only [renO, renS_eq, id]
    refine ⟨tmps, e, h1, fun t v hv => ?_, fun t v hv => ?_⟩
    · obtain ⟨u, hu, rfl⟩ := renS_look hv; exact (ren_rel _ _).2 (h2 t u hu)
    · obtain ⟨u, hu, rfl⟩ := renS_look hv; exact h3 t u hu
  | map q k E => obtain ⟨es, c, e, g⟩ := h; rw [renO, renE_eq]; exact ⟨es, c, e, renE_rel.2 g⟩
  | mape q k E es c => rw [renO, renE_eq]; exact ⟨h.1, renE_rel.2 h.2⟩
  | mit i a b c => obtain ⟨b', e, g⟩ := h; simp only [renO, natF_eq, id]; exact ⟨b', e, g⟩
  | prow off p sz f ty => obtain ⟨c, fz, tt, ht, e, h3⟩ := h; exact ⟨c, fz, tt, ht, e, fun i k hi hk => let ⟨u, hu, hr⟩ := h3 i k hi hk; ⟨u, hu, (ren_rel _ _).2 hr⟩⟩
  | arr pre n sz f post ty =>
    obtain ⟨us, ms, vs, e, h1, h2, h3, hf⟩ := h
    simp only [renO, renFL_eq, id]
    exact ⟨us, ms, vs, e, (renL_rel _ _).2 h1, (renL_rel _ _).2 h2, h3, fun i k hi hk => let ⟨u, hu, hr⟩ := hf i k hi hk; ⟨u, hu, (ren_rel _ _).2 hr⟩⟩

def slM (nx : Nat) (sg : List Nat) (sl : Slots) : Slots → Option (List Prop)
  | [] => some []
  | (t, v) :: r => match look t sl with
    | some u => match renF nx sg v fun v => eqV v u, slM nx sg sl r with
      | some x, some y => some (x ++ y)
      | _, _ => none
    | none => none
theorem slM_spec {nx : Nat} {sg : List Nat} {sl : Slots} : ∀ {sl' : Slots} {cs : List Prop}, slM nx sg sl sl' = some cs → All cs → ∀ {t : Nat} {v : SV}, look t sl' = some v → ∃ u, look t sl = some u ∧ Less (ren nx sg v) u
  | [], cs, h, hc, t, v, hv => by cases hv
  | (j, s0) :: r, cs, h, hc, t, v, hv => by
    simp only [slM] at h
    split at h <;> first | exact (none_ne h).elim | skip
    rename_i u e1
    split at h <;> first | exact (none_ne h).elim | skip
    rename_i x y e2 e3
    rw [renF_eq] at e2
    injection h with h; subst h
    simp only [look] at hv
    cases hb : Nat.beq t j with
    | true => rw [hb] at hv; have := beq_nat hb; subst this; injection hv with hv; subst hv; exact ⟨u, e1, eqV_less _ _ _ e2 hc.left⟩
    | false => rw [hb] at hv; exact slM_spec e3 hc.right hv
/-- What is owed for a map's values to say no more than others at the keys of h. -/
def eqE (nx : Nat) (sg : List Nat) (h : Int → Bool) : MEl → MEl → Option Prop
  | .ints r v, .ints r' v' => bif keq r r' then some (∀ a, h a = true → v a = v' a) else none
  | .any e, .any e' => some (∀ a, h a = true → Less (ren nx sg (e a)) (e' a))
  | .any e, .ints r' v' => some (∀ a, h a = true → Less (ren nx sg (e a)) (.int r' (v' a)))
  | .vals V, .vals V' => some (∀ a, h a = true → V a = V' a)
  | .any e, .vals V' => some (∀ a, h a = true → Less (ren nx sg (e a)) (.val (V' a)))
  | .vals V, .any e' => some (∀ a, h a = true → Less (.val (V a)) (e' a))
  | .recs r f V, .recs r' f' V' => bif keq r r' then some (∀ a, h a = true → f a = f' a ∧ V a = V' a) else none
  | .any e, .recs r' f' V' => some (∀ a, h a = true → Less (ren nx sg (e a)) (.agg [.int r' (f' a), .val (V' a)]))
  | .recs r f V, .any e' => some (∀ a, h a = true → Less (.agg [.int r (f a), .val (V a)]) (e' a))
  | _, _ => none
/-- What is owed for a block, under other names, to say no more than another. -/
def eqO (nx : Nat) (sg : List Nat) : SO → SO → Option (List Prop)
  | .cells vs ty, .cells us ty' => bif Nat.beq ty ty' then renFL nx sg vs fun vs => eqL vs us else none
  | .row off n cap sz f ty, .row off' n' cap' sz' g ty' => bif Nat.beq sz sz' && tyLe ty ty' then some [off = off' ∧ n ≤ n' ∧ (n' ≤ cap' → n ≤ cap) ∧ cap ≤ cap', ∀ i k, i < n → k < sz → Less (ren nx sg (f i k)) (g i k)] else none
  | .row off n cap sz f ty, .cells us ty' => bif Nat.beq off 0 && tyLe ty ty' then some [n ≤ cap ∧ cap * sz ≤ us.length, ∀ i k, i < n → k < sz → ∃ u, us[i * sz + k]? = some u ∧ Less (ren nx sg (f i k)) u] else none
  | .obj o, .obj o' => some [o = o']
  | .lp st pe fn n sl ps a b D, .lp st' pe' fn' n' sl' ps' a' b' D' => match slM nx sg sl' sl with
    | some cs => some ((st = st' ∧ pe = pe' ∧ fn = fn' ∧ n = n' ∧ ps = ps' ∧ a = a' ∧ b = b' ∧ D = D') :: cs)
    | none => none
  | .map q h E, .map q' h' E' => bif keq q q' then (match eqE nx sg h' E E' with | some p => some [∀ a, h a = h' a, p] | none => none) else none
  | .map q h E, .mape q' h' E' _ _ => bif keq q q' then (match eqE nx sg h' E E' with | some p => some [∀ a, h a = h' a, p] | none => none) else none
  | .mape q h E es c, .mape q' h' E' es' c' => bif keq q q' then (match eqE nx sg h' E E' with | some p => some [∀ a, h a = h' a, p, es = es' ∧ c = c'] | none => none) else none
  | .prow off p sz f ty, .prow off' p' sz' g ty' => bif Nat.beq sz sz' && tyLe ty ty' then some [off = off' ∧ ∀ i, p i → p' i, ∀ i k, p i → k < sz → Less (ren nx sg (f i k)) (g i k)] else none
  | .mit i a b c, .mit i' a' b' c' => bif Nat.beq (sig nx sg i) i' then some [a = a' ∧ b = b' ∧ c = c'] else none
  | .arr pre n sz f post ty, .arr pre' n' sz' g post' ty' => bif Nat.beq ty ty' && Nat.beq n n' && Nat.beq sz sz' then match renFL nx sg pre (fun l => eqL l pre'), renFL nx sg post (fun l => eqL l post') with
      | some x, some y => some (x ++ (y ++ [∀ i k, i < n → k < sz → Less (ren nx sg (f i k)) (g i k)]))
      | _, _ => none
    else none
  | .arr pre n sz f post ty, .cells us ty' => bif Nat.beq ty ty' && Nat.beq (pre.length + n * sz + post.length) us.length then match renFL nx sg pre (fun l => eqL l (us.take pre.length)), renFL nx sg post (fun l => eqL l (us.drop (pre.length + n * sz))) with
      | some x, some y => some (x ++ (y ++ [∀ i k, i < n → k < sz → ∃ u, us[pre.length + i * sz + k]? = some u ∧ Less (ren nx sg (f i k)) u]))
      | _, _ => none
    else none
  | _, _ => none
theorem eqE_rel {nx : Nat} {sg : List Nat} {h h' : Int → Bool} {E E' : MEl} {p : Prop} (e : eqE nx sg h' E E' = some p) (hh : ∀ a, h a = h' a) (hp : p) {β : Env} {q : IntKind} {es : Array MapEntry} {c : Nat} (r : MRel β q h' E' es c) :
    MRel (β.via nx sg) q h E es c := by
  refine ⟨r.st, fun x hx => ?_, fun a ha => r.has a (by rw [← hh]; exact ha)⟩
  obtain ⟨a, h1, h2, h3⟩ := r.ent x hx
  refine ⟨a, h1, by rw [hh]; exact h2, ?_⟩
  unfold eqE at e
  split at e <;> first | exact (none_ne e).elim | skip
  · obtain ⟨g1, g2⟩ := bif_some e
    subst g2
    have := keq_eq g1; subst this
    have h3 : x.val = .int _ _ := h3
    show x.val = .int _ _
    rw [h3, hp a h2]
  · injection e with e; subst e
    exact (ren_rel _ _).1 (hp a h2 β _ h3)
  · injection e with e; subst e
    exact (ren_rel _ _).1 (hp a h2 β _ h3)
  · injection e with e; subst e
    have h3 : x.val = _ ∧ _ := h3
    rw [← hp a h2] at h3
    exact h3
  · injection e with e; subst e
    exact (ren_rel _ _).1 (hp a h2 β _ h3)
  · injection e with e; subst e
    exact hp a h2 β _ h3
  · obtain ⟨g1, g2⟩ := bif_some e
    subst g2
    have := keq_eq g1; subst this
    have h3 : Rel β (.agg [.int _ _, .val _]) x.val := h3
    obtain ⟨q1, q2⟩ := hp a h2
    rw [← q1, ← q2] at h3
    exact h3
  · injection e with e; subst e
    exact (ren_rel _ _).1 (hp a h2 β _ h3)
  · injection e with e; subst e
    exact hp a h2 β _ h3
theorem eqO_rel {β : Env} {nx : Nat} {sg : List Nat} {s' s : SO} {cs : List Prop} (h : eqO nx sg s' s = some cs) (hc : All cs) {o : Obj} (hr : ORel β s o) : ORel (β.via nx sg) s' o := by
  unfold eqO at h
  split at h <;> first | exact (none_ne h).elim | skip
  · rename_i vs ty us ty'
    rw [renFL_eq] at h
    cases hb : Nat.beq ty ty' with
    | false => rw [hb] at h; cases h
    | true =>
      rw [hb] at h; simp only [cond_true] at h
      have := beq_nat hb; subst this
      obtain ⟨xs, e, hx⟩ := hr
      exact ⟨xs, e, (renL_rel _ _).1 (eqL_less _ _ _ h hc β xs hx)⟩
  · obtain ⟨h1, rfl⟩ := bif_some h
    simp only [Bool.and_eq_true] at h1
    obtain ⟨h2, h3⟩ := h1
    have h2 := beq_nat h2
    subst h2
    obtain ⟨c, fz, tt, ht, e, g1, g2, g3⟩ := hr
    obtain ⟨k0, k1, k2, k3⟩ := hc.head
    subst k0
    have k4 := hc _ (List.mem_cons_of_mem _ (List.mem_cons_self ..))
    refine ⟨c, fz, tt, tyLe_ok h3 ht, e, k2 g1, Nat.le_trans (Nat.add_le_add_left (Nat.mul_le_mul_right _ k3) _) g2, fun i k hi hk => ?_⟩
    obtain ⟨u, hu, hr⟩ := g3 i k (by omega) hk
    exact ⟨u, hu, (ren_rel _ _).1 (k4 i k hi hk β u hr)⟩
  · obtain ⟨h1, rfl⟩ := bif_some h
    simp only [Bool.and_eq_true] at h1
    obtain ⟨h1, h3⟩ := h1
    have h1 := beq_nat h1
    subst h1
    obtain ⟨xs, e, hx⟩ := hr
    obtain ⟨k1, k2⟩ := hc.head
    have k4 := hc _ (List.mem_cons_of_mem _ (List.mem_cons_self ..))
    have hlen := hx.length
    refine ⟨_, _, _, tyLe_ok h3 (.inr rfl), e, k1, by simp; omega, fun i k hi hk => ?_⟩
    obtain ⟨u, hu, hl⟩ := k4 i k hi hk
    obtain ⟨x, hx1, hx2⟩ := hx.get hu
    exact ⟨x, by simpa using hx1, (ren_rel _ _).1 (hl β x hx2)⟩
  · injection h with h; subst h
    have := hc.head
    subst this; exact hr
  · split at h <;> first | exact (none_ne h).elim | skip
    rename_i cs' e1
    injection h with h; subst h
    obtain ⟨rfl, rfl, rfl, rfl, rfl, rfl, rfl, rfl⟩ := hc.head
    obtain ⟨tmps, e, h1, h2, h3⟩ := hr
    refine ⟨tmps, e, h1, fun t v hv => ?_, fun t v hv => ?_⟩
    · obtain ⟨u, g1, g2⟩ := slM_spec e1 (fun p hp => hc p (List.mem_cons_of_mem _ hp)) hv
      exact (ren_rel _ _).1 (g2 _ _ (h2 t u g1))
    · obtain ⟨u, g1, g2⟩ := slM_spec e1 (fun p hp => hc p (List.mem_cons_of_mem _ hp)) hv
      exact h3 t u g1
  · obtain ⟨g1, h2⟩ := bif_some' h
    clear h
    have := keq_eq g1; subst this
    split at h2 <;> first | exact (none_ne h2).elim | skip
    rename_i p e1
    injection h2 with h2; subst h2
    obtain ⟨es, c, e, g⟩ := hr
    exact ⟨es, c, e, eqE_rel e1 hc.head hc.tail.head g⟩
  · obtain ⟨g1, h2⟩ := bif_some' h
    clear h
    have := keq_eq g1; subst this
    split at h2 <;> first | exact (none_ne h2).elim | skip
    rename_i p e1
    injection h2 with h2; subst h2
    exact ⟨_, _, hr.1, eqE_rel e1 hc.head hc.tail.head hr.2⟩
  · obtain ⟨g1, h2⟩ := bif_some' h
    clear h
    have := keq_eq g1; subst this
    split at h2 <;> first | exact (none_ne h2).elim | skip
    rename_i p e1
    injection h2 with h2; subst h2
    obtain ⟨rfl, rfl⟩ := hc.tail.tail.head
    exact ⟨hr.1, eqE_rel e1 hc.head hc.tail.head hr.2⟩
  · obtain ⟨h1, rfl⟩ := bif_some h
    simp only [Bool.and_eq_true] at h1
    obtain ⟨h2, h3⟩ := h1
    have h2 := beq_nat h2
    subst h2
    obtain ⟨c, fz, tt, ht, e, g3⟩ := hr
    obtain ⟨k0, k1⟩ := hc.head
    subst k0
    have k4 := hc _ (List.mem_cons_of_mem _ (List.mem_cons_self ..))
    refine ⟨c, fz, tt, tyLe_ok h3 ht, e, fun i k hi hk => ?_⟩
    obtain ⟨u, hu, hr⟩ := g3 i k (k1 i hi) hk
    exact ⟨u, hu, (ren_rel _ _).1 (k4 i k hi hk β u hr)⟩
  · obtain ⟨g1, rfl⟩ := bif_some h
    have g1 := beq_nat g1
    obtain ⟨rfl, rfl, rfl⟩ := hc.head
    obtain ⟨b', e, g⟩ := hr
    refine ⟨b', ?_, g⟩
    show β (sig nx sg _) = _
    rw [g1]; exact e
  · rename_i pre n sz f post ty pre' n' sz' g post' ty'
    obtain ⟨hb, h2⟩ := bif_some' h
    clear h
    simp only [Bool.and_eq_true] at hb
    obtain ⟨⟨b1, b2⟩, b3⟩ := hb
    have b1 := beq_nat b1; have b2 := beq_nat b2; have b3 := beq_nat b3
    subst b1 b2 b3
    rw [renFL_eq, renFL_eq] at h2
    split at h2 <;> first | exact (none_ne h2).elim | skip
    rename_i x y e1 e2
    injection h2 with h2; subst h2
    obtain ⟨us, ms, vs, e, h1, h2, h3, hf⟩ := hr
    refine ⟨us, ms, vs, e, (renL_rel _ _).1 (eqL_less _ _ _ e1 hc.left β us h1), (renL_rel _ _).1 (eqL_less _ _ _ e2 hc.right.left β vs h2), h3, fun i k hi hk => ?_⟩
    obtain ⟨u, hu, hr⟩ := hf i k hi hk
    exact ⟨u, hu, (ren_rel _ _).1 (hc.right.right.head i k hi hk β u hr)⟩
  · rename_i pre n sz f post ty us' ty'
    obtain ⟨hb, h2⟩ := bif_some' h
    clear h
    simp only [Bool.and_eq_true] at hb
    obtain ⟨b1, b2⟩ := hb
    have b1 := beq_nat b1; have b2 := beq_nat b2
    subst b1
    rw [renFL_eq, renFL_eq] at h2
    split at h2 <;> first | exact (none_ne h2).elim | skip
    rename_i x y e1 e2
    injection h2 with h2; subst h2
    obtain ⟨xs, e, hx⟩ := hr
    have hxl := hx.length
    refine ⟨xs.take pre.length, (xs.drop pre.length).take (n * sz), xs.drop (pre.length + n * sz), ?_, (renL_rel _ _).1 (eqL_less _ _ _ e1 hc.left β _ (hx.take _)), (renL_rel _ _).1 (eqL_less _ _ _ e2 hc.right.left β _ (hx.drop _)), by simp; omega, fun i k hi hk => ?_⟩
    · rw [e]
      congr 2
      rw [List.append_assoc, ← List.drop_drop, List.take_append_drop, List.take_append_drop]
    · obtain ⟨u, hu, hl⟩ := hc.right.right.head i k hi hk
      obtain ⟨v, hv, hr⟩ := hx.get hu
      have hlt : i * sz + k < n * sz := by
        have : (i + 1) * sz ≤ n * sz := Nat.mul_le_mul_right _ hi
        rw [Nat.add_mul, Nat.one_mul] at this; omega
      refine ⟨v, ?_, (ren_rel _ _).1 (hl β v hr)⟩
      rw [List.getElem?_take, if_pos hlt, List.getElem?_drop, ← hv]
      congr 1
      omega

/-- A row that need not lie anywhere. -/
def bare : SO → Option (List Prop)
  | .row _ n _ _ _ _ => some [n = 0]
  | _ => none
theorem bare_live {s : SO} {cs : List Prop} (h : bare s = some cs) (hc : All cs) : ¬ s.Live := by
  cases s with
  | row off n cap sz f ty =>
    injection h with h; subst h
    have h0 : n = 0 := hc.head
    show ¬ 0 < n
    omega
  | cells => cases h
  | obj => cases h
  | lp => cases h
  | map => cases h
  | mape => cases h
  | mit => cases h
  | prow => cases h
  | arr => cases h
theorem eqO_live {nx : Nat} {sg : List Nat} {s' s : SO} {cs : List Prop} (h : eqO nx sg s' s = some cs) (hc : All cs) (hl : s'.Live) : s.Live := by
  unfold eqO at h
  split at h <;> first | exact (none_ne h).elim | skip
  · trivial
  · rename_i off n cap sz f ty off' n' cap' sz' g ty'
    obtain ⟨h1, rfl⟩ := bif_some h
    obtain ⟨k0, k1, k2, k3⟩ := hc.head
    have hl : 0 < n := hl
    show 0 < n'
    omega
  all_goals trivial
def hpM (nx : Nat) (sg : List Nat) (hp : Hp) : Hp → Option (List Prop)
  | [] => some []
  | (i, so) :: r => match hget (sig nx sg i) hp with
    | some s => match eqO nx sg so s, hpM nx sg hp r with
      | some x, some y => some (x ++ y)
      | _, _ => none
    | none => match bare so, hpM nx sg hp r with
      | some x, some y => some (x ++ y)
      | _, _ => none
theorem hpM_spec {nx : Nat} {sg : List Nat} {hp : Hp} : ∀ {hp' : Hp} {cs : List Prop}, hpM nx sg hp hp' = some cs → All cs → ∀ {i : Nat} {so : SO}, hget i hp' = some so → so.Live →
    ∃ s ds, hget (sig nx sg i) hp = some s ∧ eqO nx sg so s = some ds ∧ All ds
  | [], cs, h, hc, i, so, hi, hl => by cases hi
  | (j, s1) :: r, cs, h, hc, i, so, hi, hl => by
    simp only [hpM] at h
    simp only [hget] at hi
    split at h
    · rename_i s e1
      split at h <;> first | exact (none_ne h).elim | skip
      rename_i x y e2 e3
      injection h with h; subst h
      cases hb : Nat.beq i j with
      | true =>
        rw [hb] at hi; have := beq_nat hb; subst this; injection hi with hi; subst hi
        exact ⟨s, x, e1, e2, hc.left⟩
      | false => rw [hb] at hi; exact hpM_spec e3 hc.right hi hl
    · split at h <;> first | exact (none_ne h).elim | skip
      rename_i x y e2 e3
      injection h with h; subst h
      cases hb : Nat.beq i j with
      | true =>
        rw [hb] at hi; have := beq_nat hb; subst this; injection hi with hi; subst hi
        exact absurd hl (bare_live e2 hc.left)
      | false => rw [hb] at hi; exact hpM_spec e3 hc.right hi hl
def hkeys : Hp → List Nat
  | [] => []
  | (i, _) :: r => i :: hkeys r
theorem hkeys_mem {i : Nat} {s : SO} : ∀ {hp : Hp}, hget i hp = some s → i ∈ hkeys hp
  | [], h => by cases h
  | (j, x) :: r, h => by
    simp only [hget] at h
    cases hb : Nat.beq i j with
    | true => have := beq_nat hb; subst this; exact List.mem_cons_self ..
    | false => rw [hb] at h; exact List.mem_cons_of_mem _ (hkeys_mem h)
/-- No two of the keys get one name. -/
def dist (nx : Nat) (sg : List Nat) : List Nat → Bool
  | [] => true
  | i :: r => !hasN (sig nx sg i) (r.map (sig nx sg)) && dist nx sg r
theorem dist_spec {nx : Nat} {sg : List Nat} : ∀ {l : List Nat}, dist nx sg l = true → ∀ {i j : Nat}, i ∈ l → j ∈ l → i ≠ j → sig nx sg i ≠ sig nx sg j
  | [], h, i, j, hi, hj, hne => by cases hi
  | a :: r, h, i, j, hi, hj, hne => by
    simp only [dist, Bool.and_eq_true, Bool.not_eq_true'] at h
    have hn : ∀ x ∈ r, sig nx sg a ≠ sig nx sg x := by
      intro x hx e
      have : hasN (sig nx sg a) (r.map (sig nx sg)) = true := hasN_iff.2 (e ▸ List.mem_map_of_mem hx)
      rw [this] at h; cases h.1
    cases hi with
    | head => cases hj with
      | head => exact absurd rfl hne
      | tail _ hj => exact hn j hj
    | tail _ hi => cases hj with
      | head => exact fun e => hn i hi e.symm
      | tail _ hj => exact dist_spec h.2 hi hj hne
/-- The read-only blocks keep their names. -/
def roM (nx : Nat) (sg : List Nat) : Hp → Option (List Prop)
  | [] => some []
  | (i, s) :: r => bif Nat.beq (sig nx sg i) i then match eqO nx sg s s, roM nx sg r with
      | some x, some y => some (x ++ y)
      | _, _ => none
    else none
theorem roM_spec {nx : Nat} {sg : List Nat} : ∀ {ro : Hp} {cs : List Prop}, roM nx sg ro = some cs → All cs → ∀ {i : Nat} {so : SO}, hget i ro = some so → sig nx sg i = i ∧ ∃ ds, eqO nx sg so so = some ds ∧ All ds
  | [], cs, h, hc, i, so, hi => by cases hi
  | (j, s0) :: r, cs, h, hc, i, so, hi => by
    simp only [roM] at h
    cases hj : Nat.beq (sig nx sg j) j with
    | false => rw [hj] at h; cases h
    | true =>
    rw [hj] at h; simp only [cond_true] at h
    split at h <;> first | exact (none_ne h).elim | skip
    rename_i x y e2 e3
    injection h with h; subst h
    simp only [hget] at hi
    cases hb : Nat.beq i j with
    | true => rw [hb] at hi; have := beq_nat hb; subst this; injection hi with hi; subst hi; exact ⟨beq_nat hj, x, e2, hc.left⟩
    | false => rw [hb] at hi; exact roM_spec e3 hc.right hi
/-- The first np names are kept. -/
def idTo (nx : Nat) (sg : List Nat) : Nat → Bool
  | 0 => true
  | n + 1 => Nat.beq (sig nx sg n) n && idTo nx sg n
theorem idTo_spec {nx : Nat} {sg : List Nat} : ∀ {n : Nat}, idTo nx sg n = true → ∀ i, i < n → sig nx sg i = i
  | 0, _, i, hi => by omega
  | n + 1, h, i, hi => by
    simp only [idTo, Bool.and_eq_true] at h
    by_cases e : i = n
    · subst e; exact beq_nat h.1
    · exact idTo_spec h.2 i (by omega)
theorem sig_ge {nx : Nat} {sg : List Nat} {i : Nat} (h : sg.length ≤ i) : sig nx sg i = nx + (i - sg.length) := by
  unfold sig
  rw [nth_get, List.getElem?_eq_none h]
/-- Names from np on are not pinned. -/
structure PinTo (B : Base) (np : Nat) : Prop where
  p : ∀ i, np ≤ i → B.pin i = none
  k : B.kd = Kind.norm

theorem Sat.rename {ro : Hp} {B : Base} {np : Nat} (hpin : PinTo B np) {nx : Nat} {sg : List Nat} {hp hp' : Hp} {ds es : List Prop} (h2 : hpM nx sg hp hp' = some ds) (h3 : dist nx sg (hkeys hp') = true) (h4 : roM nx sg ro = some es)
    (h5 : idTo nx sg np = true) (hds : All ds) (hes : All es) {β : Env} {w : World} (hs : Sat β hp ro B nx w) : Sat (β.via nx sg) hp' ro B sg.length w := by
  refine ⟨⟨?_, ?_, ?_, hs.old, hs.os, hs.tape, hs.output, hs.size, ?_⟩, ?_⟩
  · intro i s hi hl
    obtain ⟨s0, cs, e1, e2, e3⟩ := hpM_spec h2 hds hi hl
    obtain ⟨b, o, g1, g2, g3, g4, g5⟩ := hs.own _ _ e1 (eqO_live e2 e3 hl)
    exact ⟨b, o, g1, g2, g3, eqO_rel e2 e3 g4, g5⟩
  · intro i j s t hi hj ls lt hne
    obtain ⟨s0, cs, e1, e2, e3⟩ := hpM_spec h2 hds hi ls
    obtain ⟨s1, cs', e1', e2', e3'⟩ := hpM_spec h2 hds hj lt
    exact hs.apart _ _ _ _ e1 e1' (eqO_live e2 e3 ls) (eqO_live e2' e3' lt) (dist_spec h3 (hkeys_mem hi) (hkeys_mem hj) hne)
  · intro i s hi hl
    obtain ⟨e1, cs, e2, e3⟩ := roM_spec h4 hes hi
    obtain ⟨b, o, g1, g2, g3⟩ := hs.read i s hi hl
    exact ⟨b, o, by show β (sig nx sg i) = _; rw [e1]; exact g1, g2, eqO_rel e2 e3 g3⟩
  · have hid : ∀ i b, B.pin i = some b → sig nx sg i = i := fun i b hi => by
      have hlt : i < np := by
        rcases Nat.lt_or_ge i np with g | g
        · exact g
        · rw [hpin.p i g] at hi; cases hi
      exact idTo_spec h5 i hlt
    refine ⟨fun i b hi => ?_, fun i b hi => ?_⟩
    · show β (sig nx sg i) = _
      rw [hid i b hi]; exact hs.pin i b hi
    · show β.room (sig nx sg i) = _
      rw [hid i b hi]; exact hs.pin.r i b hi
  · intro i hi
    show β (sig nx sg i) = none
    rw [sig_ge hi]; exact hs.fresh _ (by omega)

/-- The calls that are put off know no renamed block. -/
@[simp] def dfKeep (nx : Nat) (sg : List Nat) : List DF → Prop
  | [] => True
  | .coll _ :: r => dfKeep nx sg r
  | .fn _ a c :: r => renL nx sg a = a ∧ renL nx sg c = c ∧ dfKeep nx sg r
  | .late :: r => dfKeep nx sg r
theorem dfKeep_rel {nx : Nat} {sg : List Nat} {β : Env} : ∀ {d : List DF} {ds : List Deferred}, dfKeep nx sg d → DfRel β d ds → DfRel (β.via nx sg) d ds
  | [], _, _, r => r
  | .coll _ :: _, _, h, r => by obtain ⟨ds', e, g⟩ := r; exact ⟨ds', e, dfKeep_rel h g⟩
  | .fn _ a c :: _, _, h, r => by
    obtain ⟨us, ws, ds', e, g1, g2, g⟩ := r
    obtain ⟨h1, h2, h3⟩ := h
    refine ⟨us, ws, ds', e, (renL_rel _ _).1 (by rw [h1]; exact g1), (renL_rel _ _).1 (by rw [h2]; exact g2), dfKeep_rel h3 g⟩
  | .late :: d, ds, h, r => dfKeep_rel (d := d) h r
section
variable {P : Program} {ro : Hp} {B : Base} {f : FuncId} {R : Ending → World → Prop}
end
end Sx
end
section
namespace Sx
open Go

/-- One end of a call: what it gives, the blocks it hands back, how many names it has used. -/
structure Out where
  r : SV
  hp : Hp
  nx : Nat

section
variable {ι : Type}
def HEnd (β : Env) (B : Base) (ro : Hp) (ψ : ι → Prop) (out : ι → Out) (e : Ending) (w' : World) : Prop :=
  ∃ z β' u, ψ z ∧ β.le β' ∧ e = .returned u ∧ Rel β' (out z).r u ∧ Sat β' (out z).hp ro B (out z).nx w'
/-- Called with xs, over the blocks hp (its own to change) and ro (to read), the function comes to one of the ends. -/
def HC (P : Program) (f : FuncId) (xs : List SV) (hp ro : Hp) (nx : Nat) (ψ : ι → Prop) (out : ι → Out) : Prop :=
  ∀ (B : Base) (β : Env) (w : World) (vs : List Value), B.ok → RelL β xs vs → Sat β hp ro B nx w → Calls P f vs.toArray w (HEnd β B ro ψ out)

theorem hc_of_run {P : Program} {f : FuncId} {fn : Func} {c : Code} {xs : List SV} {hp ro : Hp} {nx : Nat} {ψ : ι → Prop} {out : ι → Out} (hfn : P.funcs[f]? = some fn) (hb : fn.body = some c)
    (h : ∀ B : Base, B.ok → PinTo B nx → Run P ro B f (HEnd B.pin B ro ψ out) ⟨⟨fid f, xs.length + (fn.ntmps - xs.length), enumFrom 0 xs, [.code c]⟩, [], hp, nx⟩) : HC P f xs hp ro nx ψ out := by
  intro B β w vs hB hl hs
  have hs1 : Sat β hp ro ⟨B.D, B.w, β, Kind.norm⟩ nx w := ⟨⟨hs.own, hs.apart, hs.read, hs.old, hs.os, hs.tape, hs.output, hs.size, Env.le_refl _⟩, hs.fresh⟩
  refine (calls_of_run hfn hb hl hs1 (h ⟨B.D, B.w, β, Kind.norm⟩ hB ⟨hs.fresh, rfl⟩) rfl).mono ?_
  rintro e w' ⟨z, β', u, h1, h2, h3, h4, h5⟩
  exact ⟨z, β', u, h1, h2, h3, h4, ⟨h5.own, h5.apart, h5.read, h5.old, h5.os, h5.tape, h5.output, h5.size, Env.le_trans hs.pin h2⟩, h5.fresh⟩

section
variable {P : Program} {ro : Hp} {B : Base} {f : FuncId} {ψ : ι → Prop} {out : ι → Out}
theorem hend_of {np : Nat} (hpin : PinTo B np) (z : ι) (hψ : ψ z) (sg : List Nat) {hp : Hp} {nx : Nat} {rs ds es : List Prop} {v : SV} (hl : sg.length = (out z).nx) (hr : renF nx sg (out z).r (fun v' => eqV v' v) = some rs)
    (h2 : hpM nx sg hp (out z).hp = some ds) (h3 : dist nx sg (hkeys (out z).hp) = true) (h4 : roM nx sg ro = some es) (h5 : idTo nx sg np = true) (hrs : conj rs) (hds : conj ds) (hes : conj es)
    (β : Env) (w : World) (u : Value) (hs : Sat β hp ro B nx w) (hu : Rel β v u) : HEnd B.pin B ro ψ out (.returned u) w := by
  have hs' := Sat.rename hpin h2 h3 h4 h5 (all_conj hds) (all_conj hes) hs
  rw [hl] at hs'
  rw [renF_eq] at hr
  exact ⟨z, _, u, hψ, hs'.pin, rfl, (ren_rel _ _).1 (eqV_less _ _ _ hr (all_conj hrs) β u hu), hs'⟩
theorem run_hret {np : Nat} (hpin : PinTo B np) (z : ι) (hψ : ψ z) (sg : List Nat) {n : Nat} {sl : Slots} {td : List SI} {hp : Hp} {nx : Nat} {cs rs ds es : List Prop} {v : SV} (hl : sg.length = (out z).nx) (hv : resV P f sl hp ro = some (cs, v))
    (hr : renF nx sg (out z).r (fun v' => eqV v' v) = some rs)
    (h2 : hpM nx sg hp (out z).hp = some ds) (h3 : dist nx sg (hkeys (out z).hp) = true) (h4 : roM nx sg ro = some es) (h5 : idTo nx sg np = true) (hc : conj cs) (hrs : conj rs) (hds : conj ds) (hes : conj es) :
    Run P ro B f (HEnd B.pin B ro ψ out) ⟨⟨fid f, n, sl, .code .ret :: td⟩, [], hp, nx⟩ :=
  run_retK hv hc (hend_of hpin z hψ sg hl hr h2 h3 h4 h5 hrs hds hes) hpin.k
end

/-- The blocks after a call: those handed back, under the caller's names, ahead of those that were not handed in. -/
def renH {α : Type} (nx : Nat) (sg : List Nat) (tl : Hp) : Hp → (Hp → α) → α
  | [], f => f tl
  | (i, s) :: r, f => natF (sig nx sg i) fun j => renO nx sg s fun s => renH nx sg tl r fun r => f ((j, s) :: r)
def callH (nx : Nat) (sg ks : List Nat) (hz hp : Hp) : Option Hp := hdrop ks hp fun b => renH nx sg b hz some
def renH' (nx : Nat) (sg : List Nat) (tl : Hp) : Hp → Hp
  | [] => tl
  | (i, s) :: r => (sig nx sg i, renO nx sg s id) :: renH' nx sg tl r
theorem renH_eq {α : Type} (nx : Nat) (sg : List Nat) (tl : Hp) : ∀ (h : Hp) (f : Hp → α), renH nx sg tl h f = f (renH' nx sg tl h)
  | [], f => rfl
  | (i, s) :: r, f => by
    rw [renH, natF_eq, renO_eq, renH_eq nx sg tl r]; rfl
theorem callH_eq {nx : Nat} {sg ks : List Nat} {hz hp h : Hp} (e : callH nx sg ks hz hp = some h) : h = renH' nx sg (hdrop' ks hp) hz := by
  rw [callH, hdrop_eq, renH_eq] at e; injection e with e; exact e.symm
theorem renH_get {nx : Nat} {sg : List Nat} {tl : Hp} {j : Nat} {s : SO} : ∀ {h : Hp}, hget j (renH' nx sg tl h) = some s →
    (∃ i s0, j = sig nx sg i ∧ i ∈ hkeys h ∧ (i, s0) ∈ h ∧ s = renO nx sg s0 id ∧ ((∀ a b, a ∈ hkeys h → b ∈ hkeys h → sig nx sg a = sig nx sg b → a = b) → hget i h = some s0)) ∨ hget j tl = some s
  | [], h => .inr h
  | (i, s0) :: r, h => by
    simp only [renH', hget] at h
    cases hb : Nat.beq j (sig nx sg i) with
    | true =>
      rw [hb] at h; injection h with h; subst h
      exact .inl ⟨i, s0, beq_nat hb, List.mem_cons_self .., List.mem_cons_self .., rfl, fun _ => by simp [hget]⟩
    | false =>
      rw [hb] at h; simp only [cond_false] at h
      rcases renH_get h with ⟨i', s1, e1, e2, e3, e4, e5⟩ | e
      · refine .inl ⟨i', s1, e1, List.mem_cons_of_mem _ e2, List.mem_cons_of_mem _ e3, e4, fun hinj => ?_⟩
        have hne : i' ≠ i := by rintro rfl; rw [e1] at hb; simp at hb
        simp only [hget, beq_false_of hne, cond_false]
        exact e5 (fun a b ha hb => hinj a b (List.mem_cons_of_mem _ ha) (List.mem_cons_of_mem _ hb))
      · exact .inr e

/-- Blocks to be read lie among one's own or among those to be read. -/
def orM (nx : Nat) (sg : List Nat) (hp ro : Hp) : Hp → Option (List Prop)
  | [] => some []
  | (i, so) :: r => match hgetE (sig nx sg i) hp ro with
    | some s => match eqO nx sg so s, orM nx sg hp ro r with
      | some x, some y => some (x ++ y)
      | _, _ => none
    | none => match bare so, orM nx sg hp ro r with
      | some x, some y => some (x ++ y)
      | _, _ => none
theorem orM_spec {nx : Nat} {sg : List Nat} {hp ro : Hp} : ∀ {hp' : Hp} {cs : List Prop}, orM nx sg hp ro hp' = some cs → All cs → ∀ {i : Nat} {so : SO}, hget i hp' = some so → so.Live →
    ∃ s ds, (hget (sig nx sg i) hp = some s ∨ hget (sig nx sg i) ro = some s) ∧ eqO nx sg so s = some ds ∧ All ds
  | [], cs, h, hc, i, so, hi, hl => by cases hi
  | (j, s0) :: r, cs, h, hc, i, so, hi, hl => by
    simp only [orM] at h
    simp only [hget] at hi
    split at h
    · rename_i s e1
      split at h <;> first | exact (none_ne h).elim | skip
      rename_i x y e2 e3
      injection h with h; subst h
      cases hb : Nat.beq i j with
      | true =>
        rw [hb] at hi; have := beq_nat hb; subst this; injection hi with hi; subst hi
        refine ⟨s, x, ?_, e2, hc.left⟩
        unfold hgetE at e1
        split at e1
        · rename_i g; injection e1 with e1; subst e1; exact .inl g
        · exact .inr e1
      | false => rw [hb] at hi; exact orM_spec e3 hc.right hi hl
    · split at h <;> first | exact (none_ne h).elim | skip
      rename_i x y e2 e3
      injection h with h; subst h
      cases hb : Nat.beq i j with
      | true =>
        rw [hb] at hi; have := beq_nat hb; subst this; injection hi with hi; subst hi
        exact absurd hl (bare_live e2 hc.left)
      | false => rw [hb] at hi; exact orM_spec e3 hc.right hi hl
theorem renO_live {nx : Nat} {sg : List Nat} {s : SO} (h : (renO nx sg s id).Live) : s.Live := by
  cases s with
  | row off n cap sz f ty => exact h
  | cells => trivial
  | obj => trivial
  | lp => trivial
  | map => trivial
  | mape => trivial
  | mit => trivial
  | prow => trivial
  | arr => trivial
def allLt (nx : Nat) : List Nat → Bool
  | [] => true
  | i :: r => Nat.ble (i + 1) nx && allLt nx r
theorem allLt_spec {nx : Nat} : ∀ {l : List Nat}, allLt nx l = true → ∀ i ∈ l, i < nx
  | [], _, i, hi => by cases hi
  | j :: r, h, i, hi => by
    simp only [allLt, Bool.and_eq_true] at h
    cases hi with
    | head => exact ble_nat h.1
    | tail _ hi => exact allLt_spec h.2 i hi
/-- All names below n are keys. -/
def cover (ks : List Nat) : Nat → Bool
  | 0 => true
  | n + 1 => hasN n ks && cover ks n
theorem cover_spec {ks : List Nat} : ∀ {n : Nat}, cover ks n = true → ∀ i, i < n → i ∈ ks
  | 0, _, i, hi => by omega
  | n + 1, h, i, hi => by
    simp only [cover, Bool.and_eq_true] at h
    by_cases e : i = n
    · subst e; exact hasN_iff.1 h.1
    · exact cover_spec h.2 i (by omega)
theorem sig_lt {nx : Nat} {sg : List Nat} {i : Nat} (h : i < sg.length) : ∃ j, sg[i]? = some j ∧ sig nx sg i = j := by
  refine ⟨sg[i], List.getElem?_eq_getElem h, ?_⟩
  unfold sig
  rw [nth_get, List.getElem?_eq_getElem h]
theorem hkeys_get {i : Nat} : ∀ {hp : Hp}, i ∈ hkeys hp → ∃ s, hget i hp = some s
  | [], h => by cases h
  | (j, s) :: r, h => by
    simp only [hget]
    cases hb : Nat.beq i j with
    | true => exact ⟨s, rfl⟩
    | false =>
      cases h with
      | head => simp at hb
      | tail _ h => exact hkeys_get h

theorem Sat.called {β : Env} {hp ro hpc roc : Hp} {B : Base} {nx : Nat} {w : World} (hs : Sat β hp ro B nx w) (hB : B.ok) {sg : List Nat} {ds es : List Prop}
    (hlt : allLt nx sg = true) (hcov : cover (hkeys hpc ++ hkeys roc) sg.length = true) (h2 : hpM nx sg hp hpc = some ds) (h2' : orM nx sg hp ro roc = some es) (h3 : dist nx sg (hkeys hpc ++ hkeys roc) = true) (hds : All ds) (hes : All es) :
    ∃ B1 : Base, B1.ok ∧ Sat (β.via nx sg) hpc roc B1 sg.length w ∧ ∀ (β2 : Env) (w' : World) (hz : Hp) (nz : Nat), (β.via nx sg).le β2 → Sat β2 hz roc B1 nz w' → sg.length ≤ nz →
      ∃ β'' : Env, β.le β'' ∧ (∀ s v, Rel β2 s v → Rel β'' (ren nx sg s) v) ∧ Sat β'' (renH' nx sg (hdrop' ((hkeys hpc).map (sig nx sg)) hp) hz) ro B (nx + (nz - sg.length)) w' := by
  -- the callee's ground: all that is not handed in
  let foot : Nat → Prop := fun b => ∃ i so s, hget i hpc = some so ∧ hget (sig nx sg i) hp = some s ∧ s.Live ∧ β (sig nx sg i) = some b
  have hD : ∀ (b : Nat), (∃ d : Option Obj, (foot b → d = none) ∧ (¬ foot b → d = w.heap[b]?)) := fun b => by
    by_cases h : foot b
    · exact ⟨none, fun _ => rfl, fun g => absurd h g⟩
    · exact ⟨_, fun g => absurd g h, fun _ => rfl⟩
  have ⟨D, hD⟩ : ∃ D : Nat → Option Obj, ∀ b, (foot b → D b = none) ∧ (¬ foot b → D b = w.heap[b]?) := ⟨fun b => Classical.choose (hD b), fun b => Classical.choose_spec (hD b)⟩
  have hDs : ∀ b o, D b = some o → ¬ foot b ∧ w.heap[b]? = some o := fun b o e => by
    by_cases h : foot b
    · rw [(hD b).1 h] at e; cases e
    · exact ⟨h, by rw [← (hD b).2 h]; exact e⟩
  have hlt' := allLt_spec hlt
  have footD : ∀ b, foot b → B.D b = none := by
    rintro b ⟨i, so, s, _, e1, e2, e3⟩
    obtain ⟨b', o, g1, g2, _⟩ := hs.own _ _ e1 e2
    rw [e3] at g1; injection g1 with g1; subst g1; exact g2
  have hinj : ∀ a b : Nat, sig nx sg a = sig nx sg b → a = b := by
    intro a b e
    rcases Nat.lt_or_ge a sg.length with g | g <;> rcases Nat.lt_or_ge b sg.length with g' | g'
    · by_cases h : a = b
      · exact h
      · exact absurd e (dist_spec h3 (cover_spec hcov a g) (cover_spec hcov b g') h)
    · obtain ⟨j, j1, j2⟩ := sig_lt (nx := nx) g
      have := hlt' _ (List.mem_of_getElem? j1)
      rw [sig_ge g'] at e; omega
    · obtain ⟨j, j1, j2⟩ := sig_lt (nx := nx) g'
      have := hlt' _ (List.mem_of_getElem? j1)
      rw [sig_ge g] at e; omega
    · rw [sig_ge g, sig_ge g'] at e; omega
  have lent : ∀ i so, hget i roc = some so → so.Live → ∃ b o, β (sig nx sg i) = some b ∧ w.heap[b]? = some o ∧ ¬ foot b ∧ ORel (β.via nx sg) so o := by
    intro i so hi hl
    obtain ⟨s, cs, e1, e2, e3⟩ := orM_spec h2' hes hi hl
    have hsl := eqO_live e2 e3 hl
    rcases e1 with e1 | e1
    · obtain ⟨b, o, g1, g2, g3, g4, g5⟩ := hs.own _ _ e1 hsl
      refine ⟨b, o, g1, g3, ?_, eqO_rel e2 e3 g4⟩
      rintro ⟨j, so', s', j0, j1, j2, j3⟩
      by_cases hij : sig nx sg i = sig nx sg j
      · have := hinj i j hij
        subst this
        -- one key on both sides: the list's keys are told apart by their place
        have : ∀ (a b : List Nat), dist nx sg (a ++ b) = true → ∀ x, x ∈ a → x ∈ b → False := by
          intro a b
          induction a with
          | nil => intro _ x hx; cases hx
          | cons y a ih =>
            intro hd x hx hxb
            simp only [List.cons_append, dist, Bool.and_eq_true, Bool.not_eq_true'] at hd
            cases hx with
            | head =>
              have : hasN (sig nx sg y) ((a ++ b).map (sig nx sg)) = true := hasN_iff.2 (List.mem_map_of_mem (List.mem_append_right _ hxb))
              rw [this] at hd; cases hd.1
            | tail _ hx => exact ih hd.2 x hx hxb
        exact this _ _ h3 i (hkeys_mem j0) (hkeys_mem hi)
      · exact hs.apart _ _ _ _ e1 j1 hsl j2 hij (g1.trans j3.symm)
    · obtain ⟨b, o, g1, g2, g3⟩ := hs.read _ _ e1 hsl
      refine ⟨b, o, g1, hs.old b o g2, ?_, eqO_rel e2 e3 g3⟩
      intro hf
      rw [footD b hf] at g2; cases g2
  refine ⟨⟨D, w, Env.nil, Kind.norm⟩, fun b o e => (Array.getElem?_eq_some_iff.1 (hDs b o e).2).1, ?_, ?_⟩
  · refine ⟨⟨?_, ?_, ?_, fun b o e => (hDs b o e).2, rfl, rfl, rfl, Nat.le_refl _, Env.nil_le _⟩, ?_⟩
    · intro i s hi hl
      obtain ⟨s0, cs, e1, e2, e3⟩ := hpM_spec h2 hds hi hl
      have hsl := eqO_live e2 e3 hl
      obtain ⟨b, o, g1, g2, g3, g4, g5⟩ := hs.own _ _ e1 hsl
      exact ⟨b, o, g1, (hD b).1 ⟨i, s, s0, hi, e1, hsl, g1⟩, g3, eqO_rel e2 e3 g4, g5⟩
    · intro i j s t hi hj ls lt hne
      obtain ⟨s0, cs, e1, e2, e3⟩ := hpM_spec h2 hds hi ls
      obtain ⟨s1, cs', e1', e2', e3'⟩ := hpM_spec h2 hds hj lt
      exact hs.apart _ _ _ _ e1 e1' (eqO_live e2 e3 ls) (eqO_live e2' e3' lt) (fun e => hne (hinj _ _ e))
    · intro i s hi hl
      obtain ⟨b, o, g1, g2, g3, g4⟩ := lent i s hi hl
      exact ⟨b, o, g1, by show D b = _; rw [(hD b).2 g3]; exact g2, g4⟩
    · intro i hi
      show β (sig nx sg i) = none
      rw [sig_ge hi]; exact hs.fresh _ (by omega)
  · intro β2 w' hz nz hle hs2 hnz
    have hE : ∀ j, ∃ x : Option Nat × Nat, (∀ i, sig nx sg i = j → x = (β2 i, β2.room i)) ∧ ((∀ i, sig nx sg i ≠ j) → x = (β j, β.room j)) := by
      intro j
      by_cases h : ∃ i, sig nx sg i = j
      · obtain ⟨i, rfl⟩ := h
        exact ⟨(β2 i, β2.room i), fun i' e => by rw [hinj _ _ e], fun g => absurd rfl (g i)⟩
      · exact ⟨(β j, β.room j), fun i e => absurd ⟨i, e⟩ h, fun _ => rfl⟩
    obtain ⟨x, hx⟩ : ∃ x : Nat → Option Nat × Nat, ∀ j, (∀ i, sig nx sg i = j → x j = (β2 i, β2.room i)) ∧ ((∀ i, sig nx sg i ≠ j) → x j = (β j, β.room j)) := ⟨fun j => Classical.choose (hE j), fun j => Classical.choose_spec (hE j)⟩
    obtain ⟨β'', hβ⟩ : ∃ β'' : Env, β'' = ⟨fun j => (x j).1, fun j => (x j).2⟩ := ⟨_, rfl⟩
    have hat : ∀ i, β'' (sig nx sg i) = β2 i := fun i => by rw [hβ]; show (x _).1 = _; rw [(hx _).1 i rfl]
    have hroom : ∀ i, β''.room (sig nx sg i) = β2.room i := fun i => by rw [hβ]; show (x _).2 = _; rw [(hx _).1 i rfl]
    have hvia : β''.via nx sg = β2 := by
      have e1 : (β''.via nx sg).f = β2.f := funext hat
      have e2 : (β''.via nx sg).room = β2.room := funext hroom
      cases β2; cases hh : β''.via nx sg
      rw [hh] at e1 e2
      simp only at e1 e2
      rw [e1, e2]
    have hle' : β.le β'' := by
      have key : ∀ j b, β j = some b → β'' j = some b ∧ β''.room j = β.room j := by
        intro j b hj
        by_cases h : ∃ i, sig nx sg i = j
        · obtain ⟨i, rfl⟩ := h
          have hv : (β.via nx sg) i = some b := hj
          exact ⟨(hat i).trans (hle i b hv), (hroom i).trans (hle.r i b hv)⟩
        · have := (hx j).2 (fun i e => h ⟨i, e⟩)
          rw [hβ]
          refine ⟨?_, ?_⟩
          · show (x j).1 = _; rw [this]; exact hj
          · show (x j).2 = _; rw [this]
      exact ⟨fun j b h => (key j b h).1, fun j b h => (key j b h).2⟩
    refine ⟨β'', ?_⟩
    have hrel : ∀ s v, Rel β2 s v → Rel β'' (ren nx sg s) v := fun s v h => (ren_rel s v).2 (by rw [hvia]; exact h)
    have horel : ∀ s o, ORel β2 s o → ORel β'' (renO nx sg s id) o := fun s o h => renO_rel (by rw [hvia]; exact h)
    -- the blocks of the caller's that were not handed in
    have kept : ∀ j s, hget j (hdrop' ((hkeys hpc).map (sig nx sg)) hp) = some s → s.Live → ∃ b o, β j = some b ∧ B.D b = none ∧ D b = some o ∧ w'.heap[b]? = some o ∧ ORel β s o ∧ Fit (β.room j) o ∧ hget j hp = some s := by
      intro j s hj hl
      rw [hdrop_get] at hj
      split at hj
      · cases hj
      rename_i hnk
      obtain ⟨b, o, g1, g2, g3, g4, g5⟩ := hs.own _ _ hj hl
      have hnf : ¬ foot b := by
        rintro ⟨i, so, s', i0, i1, i2, i3⟩
        refine hs.apart _ _ _ _ hj i1 hl i2 ?_ (g1.trans i3.symm)
        intro e; exact hnk (e ▸ List.mem_map_of_mem (hkeys_mem i0))
      have hDb : D b = some o := by rw [(hD b).2 hnf]; exact g3
      exact ⟨b, o, g1, g2, hDb, hs2.old b o hDb, g4, g5, hj⟩
    -- what the callee hands back
    have back : ∀ j s, s.Live → (∃ i s0, j = sig nx sg i ∧ i ∈ hkeys hz ∧ (i, s0) ∈ hz ∧ s = renO nx sg s0 id ∧ ((∀ a b, a ∈ hkeys hz → b ∈ hkeys hz → sig nx sg a = sig nx sg b → a = b) → hget i hz = some s0)) →
        ∃ i s0 b o, j = sig nx sg i ∧ hget i hz = some s0 ∧ s0.Live ∧ β2 i = some b ∧ D b = none ∧ B.D b = none ∧ w'.heap[b]? = some o ∧ ORel β2 s0 o ∧ Fit (β2.room i) o ∧ s = renO nx sg s0 id := by
      rintro j s hl ⟨i, s0, e1, _, _, e4, e5⟩
      have e5 := e5 (fun a b _ _ e => hinj a b e)
      have hl0 : s0.Live := renO_live (e4 ▸ hl)
      obtain ⟨b, o, g1, g2, g3, g4, g5⟩ := hs2.own _ _ e5 hl0
      refine ⟨i, s0, b, o, e1, e5, hl0, g1, g2, ?_, g3, g4, g5, e4⟩
      cases hb : B.D b with
      | none => rfl
      | some o' =>
        exfalso
        have hw := hs.old b o' hb
        by_cases hf : foot b
        · rw [footD b hf] at hb; cases hb
        · have := (hD b).2 hf
          have g2 : D b = none := g2
          rw [g2, hw] at this; cases this
    refine ⟨hle', hrel, ⟨?_, ?_, ?_, ?_, ?_, ?_, ?_, ?_, ?_⟩, ?_⟩
    · intro j s hj hl
      rcases renH_get hj with h | h
      · obtain ⟨i, s0, b, o, e1, e2, _, g1, g2, g3, g4, g5, g6, rfl⟩ := back j s hl h
        exact ⟨b, o, by rw [e1]; exact (hat i).trans g1, g3, g4, horel _ _ g5, by rw [e1, hroom]; exact g6⟩
      · obtain ⟨b, o, g1, g2, _, g4, g5, g6, _⟩ := kept j s h hl
        exact ⟨b, o, hle' _ _ g1, g2, g4, ORel.mono hle' _ _ g5, by rw [hle'.r _ _ g1]; exact g6⟩
    · intro j k s t hj hk ls lt hne
      have mix : ∀ j k s t, s.Live → t.Live → (∃ i s0, j = sig nx sg i ∧ i ∈ hkeys hz ∧ (i, s0) ∈ hz ∧ s = renO nx sg s0 id ∧ ((∀ a b, a ∈ hkeys hz → b ∈ hkeys hz → sig nx sg a = sig nx sg b → a = b) → hget i hz = some s0)) →
          hget k (hdrop' ((hkeys hpc).map (sig nx sg)) hp) = some t → β'' j ≠ β'' k := by
        intro j k s t ls lt h h'
        obtain ⟨i, s0, b, o, e1, e2, _, g1, g2, _⟩ := back j s ls h
        obtain ⟨b', o', g1', _, g3', _⟩ := kept k t h' lt
        rw [e1, hat, g1, hle' _ _ g1']
        intro e; injection e with e; subst e; rw [g2] at g3'; cases g3'
      rcases renH_get hj with h | h <;> rcases renH_get hk with h' | h'
      · obtain ⟨i, s0, b, o, e1, e2, l1, g1, g2, g3, g4, g5, g6, rfl⟩ := back j s ls h
        obtain ⟨i', s0', b', o', e1', e2', l2, g1', g2', _⟩ := back k t lt h'
        rw [e1, e1', hat, hat]
        exact hs2.apart _ _ _ _ e2 e2' l1 l2 (fun e => hne (by rw [e1, e1', e]))
      · exact mix j k s t ls lt h h'
      · exact Ne.symm (mix k j t s lt ls h' h)
      · obtain ⟨b, o, g1, _, _, _, _, _, g7⟩ := kept j s h ls
        obtain ⟨b', o', g1', _, _, _, _, _, g7'⟩ := kept k t h' lt
        rw [hle' _ _ g1, hle' _ _ g1', ← g1, ← g1']
        exact hs.apart _ _ _ _ g7 g7' ls lt hne
    · intro i s hi hl
      obtain ⟨b, o, g1, g2, g3⟩ := hs.read i s hi hl
      exact ⟨b, o, hle' _ _ g1, g2, ORel.mono hle' _ _ g3⟩
    · intro b o hb
      refine hs2.old b o ?_
      show D b = some o
      rw [(hD b).2 ?_]
      · exact hs.old b o hb
      · intro hf
        rw [footD b hf] at hb; cases hb
    · exact hs2.os.trans hs.os
    · exact hs2.tape.trans hs.tape
    · exact hs2.output.trans hs.output
    · exact Nat.le_trans hs.size hs2.size
    · exact Env.le_trans hs.pin hle'
    · intro i hi
      have : sig nx sg (sg.length + (i - nx)) = i := by rw [sig_ge (by omega)]; omega
      rw [← this, hat]
      exact hs2.fresh _ (by omega)
end
end Sx
end
section
namespace Sx
open Go

section
variable {P : Program} {ro : Hp} {B : Base} {f : FuncId} {R : Ending → World → Prop}

/-- The next operation of a region gives a value, one of those that z tells. -/
theorem run_opz {Z : Type} {G : Z → Prop} {sz : Z → SV} {hpz : Z → Hp} {nxz : Z → Nat} {fn : FId} {n : Nat} {sl : Slots} {ops : Array Oper} {i : Nat} {o : Oper} {cur : List Oper} {tl : Option (List Nat)} {k : List SI} {rest : List SFr} {hp : Hp} {nx : Nat}
    (h : ∀ z, G z → ∃ sl', put o.dst (sz z) n sl = some sl' ∧ Run P ro B f R ⟨⟨fn, n, sl', .reg ops (i + 1) cur tl :: k⟩, rest, hpz z, nxz z⟩)
    (hop : ∀ (β : Env) (w : World) (tmps : Array Value) (b : Frame) (k : List Item) (cs : List Frame) (r : List Nat) (dd : List Deferred), tmps.size = n → (∀ t v, look t sl = some v → Rel β v (tmps.getD t undef)) →
      (∀ t v, look t sl = some v → t < tmps.size) → Sat β hp ro B nx w → b.kind = kindOf fn.dfs → ops[i]? = some o →
      ∃ (z : Z) (β' : Env) (w' : World) (v : Value), G z ∧ β.le β' ∧ Sat β' (hpz z) ro B (nxz z) w' ∧ Rel β' (sz z) v ∧
        Steps P (lone (b.atR ⟨tmps, dd⟩ (.inRegion ops (i :: r) :: k)) cs w) (lone (b.atR (Act.put ⟨tmps, dd⟩ o.dst v) (.inRegion ops r :: k)) cs w')) :
    Run P ro B f R ⟨⟨fn, n, sl, .reg ops i (o :: cur) tl :: k⟩, rest, hp, nx⟩ := by
  intro β w fr frs cs hf hfs hs hcs
  have hrok := hf.ok _ (List.mem_cons_self ..)
  obtain ⟨ho, hok', hit⟩ := reg_ok hrok
  obtain ⟨z, β', w', v, hz, hle, hs', hv, hst⟩ := hop β w fr.tmps fr (k.map SI.item) (frs ++ cs) (List.range' (i + 1) cur.length ++ tl.getD []) fr.defers hf.size hf.slot (by rw [hf.size]; exact hf.lt) hs hf.kind ho
  obtain ⟨sl', hput, hr⟩ := h z hz
  obtain ⟨p1, p2, p3⟩ := put_spec (β := β') hput hf.size (fun t v e => Rel.mono hle _ _ (hf.slot t v e)) hf.lt hv
  obtain ⟨e, w2, fr2, hR, hc, r⟩ := hr β' w' (fr.atR ⟨(Act.put ⟨fr.tmps, fr.defers⟩ o.dst v).tmps, fr.defers⟩ ((SI.reg ops (i + 1) cur tl :: k).map SI.item)) frs cs (FrRel.of hf.fn hf.rnd hf.kind (hf.defers.mono hle) p1 p3 p2 (by
    intro x hx
    cases hx with
    | head => exact hok'
    | tail _ hm => exact hf.ok x (List.mem_cons_of_mem _ hm))) (hfs.mono hle) hs' hcs
  refine ⟨e, w2, fr2, hR, .of_steps ?_ hc, r⟩
  have := hf.at
  rw [this, ← put_eq]
  simp only [List.map_cons, hit]
  exact hst

end
end Sx
end
section
namespace Sx
open Go
end Sx
end
section
namespace Sx
open Go

/-- The new blocks' places are pinned. -/
def Base.pin2 (B : Base) (nx D l : Nat) : Base := ⟨B.D, B.w, ⟨fun i => bif Nat.beq i nx then some D else bif Nat.beq i (nx + 1) then some l else B.pin i, fun i => bif Nat.beq i nx then 0 else bif Nat.beq i (nx + 1) then 0 else B.pin.room i⟩, B.kd⟩
theorem PinTo.pin2 {B : Base} {np : Nat} (h : PinTo B np) {nx D l : Nat} (hn : np ≤ nx) : PinTo (B.pin2 nx D l) (nx + 2) := by
  refine ⟨fun i hi => ?_, h.k⟩
  have h1 : Nat.beq i nx = false := beq_false_of (by omega)
  have h2 : Nat.beq i (nx + 1) = false := beq_false_of (by omega)
  simp only [Base.pin2, h1, h2, cond_false]
  exact h.p i (by omega)
theorem Base.pin2_ok {B : Base} (h : B.ok) {nx D l : Nat} : (B.pin2 nx D l).ok := h

/-- A known block is written over by another object. -/
theorem Sat.put {β : Env} {hp ro : Hp} {B : Base} {nx : Nat} {w : World} (hs : Sat β hp ro B nx w) {i b : Nat} {o so : SO} {hp' : Hp} {ob : Obj} (hset' : hset i so hp = some hp') (hi : hget i hp = some o) (hlo : o.Live) (hb : β i = some b) (hor : ORel β so ob) (hl : ∀ o', ORel β o o' → Fit (β.room i) o' → Fit (β.room i) ob) :
    Sat β hp' ro B nx (w.putObj b ob) := by
  obtain ⟨b', o', k1, k2, k3, k4, k5⟩ := hs.own _ _ hi hlo
  rw [hb] at k1; injection k1 with k1; subst k1
  have hlt : b < w.heap.size := (Array.getElem?_eq_some_iff.1 k3).1
  exact ⟨hs.toMem.set hset' ⟨hi, hlo⟩ hb hor (hl _ k4 k5) (World.putObj_heap_same hlt) (fun k hk => World.putObj_heap_other hk) (by simp) rfl rfl rfl, hs.fresh⟩
theorem lp_fit {β : Env} {st : LoopState} {pe : Option Code} {fnL nL : Nat} {slL : Slots} {ps : Array Tmp} {as bd : Code} {D r : Nat} {o : Obj} {L : Loop} (h : ORel β (.lp st pe fnL nL slL ps as bd D) o) (hf : Fit r o) : Fit r (.loop L) := by
  obtain ⟨tmps, rfl, _⟩ := h
  exact ⟨trivial, hf.s⟩
/-- A known block is given up. -/
theorem Sat.spoil {β : Env} {hp ro : Hp} {B : Base} {nx : Nat} {w : World} (hs : Sat β hp ro B nx w) {i b : Nat} {o : SO} (hi : hget i hp = some o) (hlo : o.Live) (hb : β i = some b) (ob : Obj) : Sat β (hdrop' [i] hp) ro B nx (w.putObj b ob) := by
  obtain ⟨b', o', k1, k2, k3, k4, k5⟩ := hs.own _ _ hi hlo
  rw [hb] at k1; injection k1 with k1; subst k1
  have sub : ∀ j s, hget j (hdrop' [i] hp) = some s → hget j hp = some s ∧ j ≠ i := by
    intro j s hj
    rw [hdrop_get] at hj
    split at hj
    · cases hj
    · rename_i hn; exact ⟨hj, by simpa using hn⟩
  refine ⟨⟨fun j s hj hl => ?_, fun j k s t hj hk ls lt hne => hs.apart j k s t (sub j s hj).1 (sub k t hk).1 ls lt hne, hs.read, fun c oc hD => ?_, hs.os, hs.tape, hs.output, by simpa using hs.size, hs.pin⟩, hs.fresh⟩
  · obtain ⟨g1, g2⟩ := sub j s hj
    obtain ⟨c, oc, q1, q2, q3, q4, q5⟩ := hs.own j s g1 hl
    refine ⟨c, oc, q1, q2, ?_, q4, q5⟩
    rw [World.putObj_heap_other ?_]; exact q3
    intro e; subst e; exact hs.apart j i s o g1 hi hl hlo g2 (q1.trans hb.symm)
  · rw [World.putObj_heap_other ?_]; exact hs.old c oc hD
    intro e; subst e; rw [k2] at hD; cases hD

section
variable {P : Program} {ro : Hp} {B : Base} {f : FuncId} {R : Ending → World → Prop}

theorem FsRel.ok {β : Env} {ss : List SFr} {frs : List Frame} (h : FsRel β ss frs) : ss.length = frs.length := by
  induction h with
  | nil => rfl
  | cons _ _ ih => simp [ih]

/-- Entering: the loop's blocks are laid; the function is called with yield. -/
theorem run_range (hP : Named P) (hB : B.ok) {g : Operand} {ps : Array Tmp} {assign body : Code} {fn : FId} {n : Nat} {sl : Slots} {k : List SI} {rest : List SFr} {hp : Hp} {nx : Nat} {cs : List Prop} {gf : Nat} {a c : List SV} {gfn : Func} {gb : Code} {n1 n2 : Nat}
    (hrd : fn.rnd = none) (hg : evs sl g = some (cs, .clo (.func gf) a c)) (hc : conj cs) (hgf : P.funcs[gf]? = some gfn) (hgb : gfn.body = some gb)
    (e1 : natF (nx + 1) some = some n1) (e2 : natF (nx + 2) some = some n2)
    (h : ∀ D l, Run P ro (B.pin2 nx D l) f R ⟨⟨fid gf, (a ++ .clo (.yield l) [] [] :: c).length + (gfn.ntmps - (a ++ .clo (.yield l) [] [] :: c).length), enumFrom 0 (a ++ .clo (.yield l) [] [] :: c), [.code gb]⟩,
      ⟨⟨fn.f, none, D :: fn.dfs⟩, n, sl, .inR l :: k⟩ :: rest, (n1, .lp .ready none fn.f n sl ps assign body D) :: (nx, .obj (.deferred (some []))) :: hp, n2⟩) :
    Run P ro B f R ⟨⟨fn, n, sl, .code (.rangeFunc g ps assign body) :: k⟩, rest, hp, nx⟩ := by
  rw [natF_eq] at e1 e2
  injection e1 with e1; injection e2 with e2
  subst e1 e2
  intro β w fr frs cs' hf hfs hs hcs
  have hw := evs_rel (ρ := Act.eval ⟨fr.tmps, []⟩) hf.rho hg (all_conj hc)
  obtain ⟨us, ws, hv, hu, hws⟩ := hw
  -- the two blocks
  obtain ⟨β1, l1, p1, r1, s1⟩ := hs.new (.obj (.deferred (some []))) (.deferred (some [])) hB (fun _ _ _ => rfl) trivial
  obtain ⟨β2, l2, p2, r2, s2⟩ := s1.new (.lp .ready none fn.f n sl ps assign body w.heap.size) (.loop { state := .ready, pending := none, fn := fn.f, tmps := fr.tmps, params := ps, assign := assign, body := body, defers := w.heap.size }) hB
    (fun β' hle _ => ⟨fr.tmps, rfl, hf.size, fun t v hv => Rel.mono hle _ _ (Rel.mono l1 _ _ (hf.slot t v hv)), hf.lt⟩) trivial
  have l12 : β.le β2 := Env.le_trans l1 l2
  have hsz1 : (w.alloc (.deferred (some []))).heap.size = w.heap.size + 1 := by simp [World.size_alloc]
  rw [hsz1] at p2
  have hpin : (B.pin2 nx w.heap.size (w.heap.size + 1)).pin.le β2 := by
    have key : ∀ i b, (B.pin2 nx w.heap.size (w.heap.size + 1)).pin i = some b → β2 i = some b ∧ β2.room i = (B.pin2 nx w.heap.size (w.heap.size + 1)).pin.room i := by
      intro i b hi
      simp only [Base.pin2] at hi ⊢
      cases h1 : Nat.beq i nx with
      | true => rw [h1] at hi; simp only [cond_true, Option.some.injEq] at hi; have := beq_nat h1; subst this; subst hi; exact ⟨l2 _ _ p1, (l2.r _ _ p1).trans r1⟩
      | false =>
        rw [h1] at hi; simp only [cond_false] at hi ⊢
        cases h2 : Nat.beq i (nx + 1) with
        | true => rw [h2] at hi; simp only [cond_true, Option.some.injEq] at hi; have := beq_nat h2; subst this; subst hi; exact ⟨p2, r2⟩
        | false => rw [h2] at hi; exact ⟨l12 _ _ (hs.pin i b hi), (l12.r _ _ (hs.pin i b hi)).trans (hs.pin.r i b hi)⟩
    exact ⟨fun i b h => (key i b h).1, fun i b h => (key i b h).2⟩
  have hargs : RelL β2 (a ++ .clo (.yield (w.heap.size + 1)) [] [] :: c) (us ++ Value.func (.yield (w.heap.size + 1)) #[] #[] :: ws) :=
    (RelL.mono l12 _ _ hu).append ⟨_, _, rfl, ⟨[], [], rfl, rfl, rfl⟩, RelL.mono l12 _ _ hws⟩
  have hname := hP _ _ hgf
  have hst := stepR_rangeFunc (P := P) (b := fr) (a := ⟨fr.tmps, fr.defers⟩) (k := k.map SI.item) (cs := frs ++ cs') (w := w) (g := g) (ps := ps) (assign := assign) (body := body) (l := w.heap.size + 1)
    (mark := [{ target := .collected w.heap.size, args := #[] }]) (f := gf) (args := (us ++ Value.func (.yield (w.heap.size + 1)) #[] #[] :: ws).toArray)
    (d := { target := .fn (.func gf) ws.toArray, args := us.toArray ++ #[Value.func (.yield (w.heap.size + 1)) #[] #[]] })
    (by rw [hf.rnd, hrd, hf.fn]; exact run_enterLoop_outer _ _ _ _ _)
    (by
      have hv' : Act.eval ⟨fr.tmps, fr.defers⟩ g = .func (.func gf) us.toArray ws.toArray := hv
      have hk : Act.eval ⟨fr.tmps, fr.defers⟩ (.const (.func (.yield (w.heap.size + 1)) #[] #[])) = .func (.yield (w.heap.size + 1)) #[] #[] := rfl
      simp only [rangeCall, resolve, Sem.run_bind, hv', Deferred.ofValue, Sem.run_pure, Result.andThen, List.map_toArray, List.map_cons, List.map_nil, hk]
      rfl)
    (by
      simp only [invoke, callFunc, run_program, hgf, Sem.run_bind, Sem.run_ite, hname, Bool.false_eq_true, if_false, hgb, Option.isNone_some, Result.andThen, Sem.run_pure]
      congr 2
      apply Array.ext'
      simp)
  obtain ⟨e, w2, fr2, hR, hcm, r⟩ := h w.heap.size (w.heap.size + 1) β2 _ (Frame.enter P gf (us ++ Value.func (.yield (w.heap.size + 1)) #[] #[] :: ws).toArray .normal)
    (fr.atR { tmps := fr.tmps, defers := { target := .collected w.heap.size, args := #[] } :: fr.defers } (.inRangeFunc (w.heap.size + 1) :: k.map SI.item) :: frs) cs' (enter_rel hgf hgb hargs)
    (.cons ⟨hf.fn, hf.size, fun t v hv => Rel.mono l12 _ _ (hf.slot t v hv), hf.lt, by simp [Frame.atR, SI.item], by
      intro x hx
      cases hx with
      | head => trivial
      | tail _ hm => exact hf.ok x (List.mem_cons_of_mem _ hm), ⟨_, rfl, hf.defers.mono l12⟩, rfl, hf.kind, by show fr.roundOf = none; rw [hf.rnd, hrd]⟩ (hfs.mono l12))
    ⟨⟨s2.own, s2.apart, s2.read, s2.old, s2.os, s2.tape, s2.output, s2.size, hpin⟩, s2.fresh⟩ hcs
  refine ⟨e, w2, fr2, hR, .of_steps (.one ?_) hcm, r⟩
  have := hf.at
  rw [this]
  exact hst
end
end Sx
end
section
namespace Sx
open Go

def setPs : List Tmp → List SV → Nat → Slots → Option Slots
  | [], [], _, sl => some sl
  | t :: ts, v :: vs, n, sl => match put (some t) v n sl with
    | some sl' => setPs ts vs n sl'
    | none => none
  | _, _, _, _ => none
theorem setPs_rel {β : Env} {n : Nat} : ∀ {ts : List Tmp} {vs : List SV} {sl sl' : Slots} {xs : List Value} {tmps : Array Value}, setPs ts vs n sl = some sl' → tmps.size = n →
    (∀ t v, look t sl = some v → Rel β v (tmps.getD t undef)) → (∀ t v, look t sl = some v → t < n) → RelL β vs xs →
    ts.length = xs.length ∧ ((ts.zip xs).foldl (fun tmps (p : Tmp × Value) => tmps.setIfInBounds p.1 p.2) tmps).size = n ∧ (∀ t v, look t sl' = some v → t < n) ∧
      ∀ t v, look t sl' = some v → Rel β v (((ts.zip xs).foldl (fun tmps (p : Tmp × Value) => tmps.setIfInBounds p.1 p.2) tmps).getD t undef)
  | [], [], sl, sl', xs, tmps, h, hn, hs, hl, hx => by
    simp only [RelL] at hx; subst hx
    injection h with h; subst h
    exact ⟨rfl, hn, hl, hs⟩
  | t :: ts, v :: vs, sl, sl', xs, tmps, h, hn, hs, hl, hx => by
    obtain ⟨y, ys, rfl, hy, hys⟩ := hx
    simp only [setPs] at h
    split at h <;> first | exact (none_ne h).elim | skip
    rename_i sl1 h1
    obtain ⟨p1, p2, p3⟩ := put_spec (ds := []) h1 hn hs hl hy
    obtain ⟨g1, g2, g3, g4⟩ := setPs_rel h p1 p3 p2 hys
    exact ⟨by simp [g1], g2, g3, g4⟩
  | [], _ :: _, _, _, _, _, h, _, _, _, _ => by cases h
  | _ :: _, [], _, _, _, _, h, _, _, _, _ => by cases h

def yieldOp (sl : Slots) : Op → Option (List Prop × Nat × List SV)
  | .call { callee := .value f, args := as, argTypes := _ } => match evs sl f, evList sl as.toList with
    | some (cs, .clo (.yield l) [] []), some (ds, xs) => some (cs ++ ds, l, xs)
    | _, _ => none
  | _ => none

theorem op_round {P : Program} {b : Frame} {a : Act} {k : List Item} {cs : List Frame} {w w' : World} {ops : Array Oper} {i : Nat} {rest : List Nat} {o : Oper} {l : Nat} {f : FuncId} {xs : Array Value} {as bd : Code}
    (ho : ops[i]? = some o) (hw : Region.wanted o (yielded ops a.tmps) = true) (hr : (execOp a.eval o).run P w = .ok (.round l f xs as bd) w') :
    step P (lone (b.atR a (.inRegion ops (i :: rest) :: k)) cs w) = .next (lone (Frame.round l f xs as bd .normal) (b.atR a (.inRegion ops (i :: rest) :: k) :: cs) w') := by
  have hg := stepGR_op (P := P) (b := b) (k := k) (cs := cs) (w := w) (rest := rest) ho hw
  rw [semAt_ok hr (fun d e => by cases e)] at hg
  exact step_lone_go (by rw [hg]; simp [stepG.apply, hr])

theorem exitS_none {id : Nat} : ∀ {k : List SI}, exitS id k = none → exitTo id (k.map SI.item) = none
  | [], _ => rfl
  | .blk j :: k, h => by
    simp only [exitS] at h
    cases hb : Nat.beq j id with
    | true => rw [hb] at h; cases h
    | false =>
      rw [hb] at h
      simp only [List.map_cons, SI.item, exitTo]
      rw [if_neg ?_]
      · exact exitS_none h
      · intro e; have : j = id := by simpa using e
        subst this; rw [Nat.beq_refl] at hb; cases hb
  | .code c :: k, h => by have := exitS_none (k := k) h; simpa [SI.item, exitTo] using this
  | .loop c :: k, h => by have := exitS_none (k := k) h; simpa [SI.item, exitTo] using this
  | .scope c :: k, h => by have := exitS_none (k := k) h; simpa [SI.item, exitTo] using this
  | .inR c :: k, h => by have := exitS_none (k := k) h; simpa [SI.item, exitTo] using this
  | .gone c :: k, h => by have := exitS_none (k := k) h; simpa [SI.item, exitTo] using this
  | .begin :: k, h => by have := exitS_none (k := k) h; simpa [SI.item, exitTo] using this
  | .endR c :: k, h => by have := exitS_none (k := k) h; simpa [SI.item, exitTo] using this
  | .reg a b c d :: k, h => by have := exitS_none (k := k) h; simpa [SI.item, exitTo] using this

def stAfter : Option Code → LoopState
  | none => .ready
  | some _ => .done
def svAfter : Option Code → SV
  | none => .tt
  | some _ => .ff
def tdAfter : Option Code → List SI → List SI
  | none, k => k
  | some c, k => .code c :: k
/-- How a round is left. -/
inductive Leaves : List SI → Option Code → Prop where
  | off : Leaves [] none
  | ret (k : List SI) : Leaves (.code .ret :: k) (some .ret)
  | exit (id : Nat) (k : List SI) (h : exitS id k = none) : Leaves (.code (.exit id) :: k) (some (.exit id))

section
variable {P : Program} {ro : Hp} {B : Base} {f : FuncId} {R : Ending → World → Prop}

theorem Sat.loop {β : Env} {hp : Hp} {nx : Nat} {w : World} (hs : Sat β hp ro B nx w) {i0 l : Nat} (hpin : B.pin i0 = some l) {st : LoopState} {pe : Option Code} {fnL nL : Nat} {slL : Slots} {ps : Array Tmp} {as bd : Code} {D : Nat}
    (hlp : hget i0 hp = some (.lp st pe fnL nL slL ps as bd D)) : β i0 = some l ∧ ∃ tmps : Array Value, w.heap[l]? = some (.loop { state := st, pending := pe, fn := fnL, tmps := tmps, params := ps, assign := as, body := bd, defers := D }) ∧ tmps.size = nL ∧
      (∀ t v, look t slL = some v → Rel β v (tmps.getD t undef)) ∧ ∀ t v, look t slL = some v → t < nL := by
  have hβ := hs.pin _ _ hpin
  obtain ⟨b, o, g1, g2, g3, g4, g5⟩ := hs.own _ _ hlp trivial
  rw [hβ] at g1; injection g1 with g1; subst g1
  obtain ⟨tmps, rfl, h1, h2, h3⟩ := g4
  exact ⟨hβ, tmps, g3, h1, h2, h3⟩

theorem run_yield {fn : FId} {n : Nat} {sl : Slots} {ops : Array Oper} {i : Nat} {o : Oper} {cur : List Oper} {tl : Option (List Nat)} {k : List SI} {rest : List SFr} {hp : Hp} {nx : Nat} {cs : List Prop} {l : Nat} {xs : List SV} (i0 : Nat)
    {st : LoopState} {pe : Option Code} {fnL nL : Nat} {slL slR : Slots} {ps : Array Tmp} {as bd : Code} {D : Nat}
    (hgd : guardIn ops sl o = some .run) (hy : yieldOp sl o.op = some (cs, l, xs)) (hc : conj cs) (hpin : B.pin i0 = some l) (hlp : hget i0 hp = some (.lp st pe fnL nL slL ps as bd D)) (hps : setPs ps.toList xs nL slL = some slR)
    (h : Run P ro B f R ⟨⟨⟨fnL, some l, []⟩, nL, slR, [.code as, .begin, .code bd]⟩, ⟨fn, n, sl, .reg ops i (o :: cur) tl :: k⟩ :: rest, hp, nx⟩) :
    Run P ro B f R ⟨⟨fn, n, sl, .reg ops i (o :: cur) tl :: k⟩, rest, hp, nx⟩ := by
  refine Run.step (fun β w fr frs cs' hf hfs hs => ?_) h
  obtain ⟨hβ, tmps, h1, h2, h3, h4⟩ := hs.loop hpin hlp
  obtain ⟨ho, hok', hit⟩ := reg_ok (hf.ok _ (List.mem_cons_self ..))
  have hw := guard_rel hgd hf.size hf.slot (by rw [hf.size]; exact hf.lt)
  have hrho : Rho β sl (Act.eval ⟨fr.tmps, fr.defers⟩) := hf.rho
  generalize hop : o.op = op at hy
  unfold yieldOp at hy
  split at hy <;> first | exact (none_ne hy).elim | skip
  rename_i g as' tys
  split at hy <;> first | exact (none_ne hy).elim | skip
  rename_i c1 l' c2 xs' q1 q2
  simp only [Option.some.injEq, Prod.mk.injEq] at hy
  obtain ⟨rfl, rfl, rfl⟩ := hy
  have hcs := all_conj hc
  obtain ⟨us, ws, hv, hu, hw2⟩ := evs_rel hrho q1 hcs.left
  simp only [RelL] at hu hw2
  subst hu hw2
  have hl := evList_rel hrho q2 hcs.right
  obtain ⟨g1, g2, g3, g4⟩ := setPs_rel hps h2 h3 h4 hl
  have hrun : (execOp (Act.eval ⟨fr.tmps, fr.defers⟩) o).run P w = .ok (.round l' fnL ((ps.toList.zip (as'.toList.map (Act.eval ⟨fr.tmps, fr.defers⟩))).foldl (fun tmps (p : Tmp × Value) => tmps.setIfInBounds p.1 p.2) tmps) as bd) w := by
    have hy := _root_.Go.run_yield (P := P) (w := w) (args := as'.map (Act.eval ⟨fr.tmps, fr.defers⟩)) h1 (by simpa using g1.symm)
    simp only [execOp, hop, Sem.run_bind, resolve, hv, Deferred.ofValue, Sem.run_pure, Result.andThen, invoke]
    have e : (#[] ++ as'.map (Act.eval ⟨fr.tmps, fr.defers⟩)) = as'.map (Act.eval ⟨fr.tmps, fr.defers⟩) := by simp
    have e2 : (ps.zip (as'.map (Act.eval ⟨fr.tmps, fr.defers⟩))).foldl (fun tmps (p : Tmp × Value) => tmps.setIfInBounds p.1 p.2) tmps = (ps.toList.zip (as'.toList.map (Act.eval ⟨fr.tmps, fr.defers⟩))).foldl (fun tmps (p : Tmp × Value) => tmps.setIfInBounds p.1 p.2) tmps := by
      rw [← Array.foldl_toList, Array.toList_zip, Array.toList_map]
    rw [← e2]
    simpa using hy
  refine ⟨β, w, Frame.round l' fnL ((ps.toList.zip (as'.toList.map (Act.eval ⟨fr.tmps, fr.defers⟩))).foldl (fun tmps (p : Tmp × Value) => tmps.setIfInBounds p.1 p.2) tmps) as bd .normal, fr :: frs, .one ?_, ⟨rfl, g2, g4, g3, rfl, ?_, rfl, rfl, rfl, rfl⟩, .cons hf hfs, hs⟩
  · have := op_round (P := P) (b := fr) (a := ⟨fr.tmps, fr.defers⟩) (k := k.map SI.item) (cs := frs ++ cs') (w := w) (ops := ops) (i := i) (rest := List.range' (i + 1) cur.length ++ tl.getD []) ho hw hrun
    rw [← hit] at this
    have e3 := hf.at
    rw [List.cons_append]
    rw [e3]
    exact this
  · intro x hx
    simp at hx
    rcases hx with rfl | rfl | rfl <;> trivial

theorem run_begin {fn : FId} {n : Nat} {sl : Slots} {k : List SI} {rest : List SFr} {hp hp' : Hp} {nx l : Nat} (i0 : Nat) {pe : Option Code} {fnL nL : Nat} {slL : Slots} {ps : Array Tmp} {as bd : Code} {D : Nat}
    (hr : fn.rnd = some l) (hpin : B.pin i0 = some l) (hlp : hget i0 hp = some (.lp .ready pe fnL nL slL ps as bd D)) (hset' : hset i0 (.lp .busy pe fnL nL slL ps as bd D) hp = some hp')
    (h : Run P ro B f R ⟨⟨fn, n, sl, k⟩, rest, hp', nx⟩) : Run P ro B f R ⟨⟨fn, n, sl, .begin :: k⟩, rest, hp, nx⟩ := by
  refine Run.step (fun β w fr frs cs' hf hfs hs => ?_) h
  obtain ⟨hβ, tmps, h1, h2, h3, h4⟩ := hs.loop hpin hlp
  have hb := run_beginRound (P := P) (w := w) h1 rfl
  refine ⟨β, _, fr.atR ⟨fr.tmps, fr.defers⟩ (k.map SI.item), frs, .one ?_, FrRel.of hf.fn hf.rnd hf.kind hf.defers hf.size hf.slot hf.lt (fun y hy => hf.ok y (List.mem_cons_of_mem _ hy)), hfs, hs.put hset' hlp trivial hβ ⟨tmps, rfl, h2, h3, h4⟩ (fun _ => lp_fit)⟩
  have := hf.at
  rw [this]
  exact stepR_beginRound (hf.rnd.trans hr) hb

/-- A round is left: yield hands back whether there is no jump. -/
theorem run_round {f0 n l : Nat} {dfs : List DF} {sl : Slots} {td : List SI} {j : Option Code} {cfn : FId} {cn : Nat} {csl csl' : Slots} {ops : Array Oper} {i : Nat} {o : Oper} {cur : List Oper} {tl : Option (List Nat)} {k : List SI} {rest : List SFr} {hp hp' : Hp} {nx : Nat} (i0 : Nat)
    {st : LoopState} {pe : Option Code} {fnL nL : Nat} {slL : Slots} {ps : Array Tmp} {as bd : Code} {D : Nat}
    (hL : Leaves td j) (hpin : B.pin i0 = some l) (hlp : hget i0 hp = some (.lp st pe fnL nL slL ps as bd D)) (hset' : hset i0 (.lp (stAfter j) j fnL nL slL ps as bd D) hp = some hp')
    (hput : put o.dst (svAfter j) cn csl = some csl')
    (h : Run P ro B f R ⟨⟨cfn, cn, csl', .reg ops (i + 1) cur tl :: k⟩, rest, hp', nx⟩) (hkd : kindOf dfs = .normal := by rfl) :
    Run P ro B f R ⟨⟨⟨f0, some l, dfs⟩, n, sl, td⟩, ⟨cfn, cn, csl, .reg ops i (o :: cur) tl :: k⟩ :: rest, hp, nx⟩ := by
  refine Run.step (fun β w fr frs cs' hf hfs hs => ?_) h
  obtain ⟨hβ, tmps, h1, h2, h3, h4⟩ := hs.loop hpin hlp
  cases hfs with
  | cons hc1 hfs' =>
  rename_i cfr frs'
  have hc1 : FrRel β _ cfr := hc1
  obtain ⟨ho, hok', hit⟩ := reg_ok (hc1.ok _ (List.mem_cons_self ..))
  have hend := run_endRound (P := P) (w := w) j h1
  have e3 := hf.at
  have e4 := hc1.at
  have hfin : ∀ u, cfr.finish u = cfr.atR (Act.put ⟨cfr.tmps, cfr.defers⟩ o.dst u) ((SI.reg ops (i + 1) cur tl :: k).map SI.item) := by
    intro u
    rw [e4]
    simp only [List.map_cons, hit]
    rw [Frame.finish_atR, ho]; rfl
  have hstep : step P (lone fr (cfr :: (frs' ++ cs')) w) = .next (lone (cfr.finish (.bool j.isNone)) (frs' ++ cs') (w.putObj l (.loop { state := if j.isNone then .ready else .done, pending := j, fn := fnL, tmps := tmps, params := ps, assign := as, body := bd, defers := D }))) := by
    rw [e3]
    cases hL with
    | off => exact stepR_round_end hf.rnd (hf.kind.trans hkd) hend
    | ret k0 => exact stepR_round_ret hf.rnd (hf.kind.trans hkd) hend
    | exit id k0 hx => exact stepR_round_exit hf.rnd (hf.kind.trans hkd) (exitS_none hx) hend
  have hrel : Rel β (svAfter j) (.bool j.isNone) := by cases j <;> rfl
  obtain ⟨p1, p2, p3⟩ := put_spec (ds := cfr.defers) hput hc1.size hc1.slot hc1.lt hrel
  refine ⟨β, _, cfr.atR ⟨(Act.put ⟨cfr.tmps, cfr.defers⟩ o.dst (.bool j.isNone)).tmps, cfr.defers⟩ ((SI.reg ops (i + 1) cur tl :: k).map SI.item), frs', .one ?_, FrRel.of hc1.fn hc1.rnd hc1.kind hc1.defers p1 p3 p2 ?_, hfs', hs.put (ob := .loop { state := if j.isNone then .ready else .done, pending := j, fn := fnL, tmps := tmps, params := ps, assign := as, body := bd, defers := D }) hset' hlp trivial hβ ⟨tmps, by cases j <;> rfl, h2, h3, h4⟩ (fun _ => lp_fit)⟩
  · rw [List.cons_append, hstep, hfin, put_eq]
  · intro x hx
    cases hx with
    | head => exact hok'
    | tail _ hm => exact hc1.ok x (List.mem_cons_of_mem _ hm)

/-- The loop's end: the jump that a round has left. -/
theorem run_endR {fn : FId} {n : Nat} {sl : Slots} {k : List SI} {rest : List SFr} {hp hp' : Hp} {nx l : Nat} (i0 : Nat) {st : LoopState} {pe : Option Code} {fnL nL : Nat} {slL : Slots} {ps : Array Tmp} {as bd : Code} {D : Nat}
    (hpin : B.pin i0 = some l) (hlp : hget i0 hp = some (.lp st pe fnL nL slL ps as bd D)) (hst : st ≠ .busy) (hset' : hset i0 (.lp .exhausted pe fnL nL slL ps as bd D) hp = some hp')
    (h : Run P ro B f R ⟨⟨fn, n, sl, tdAfter pe k⟩, rest, hp', nx⟩) : Run P ro B f R ⟨⟨fn, n, sl, .endR l :: k⟩, rest, hp, nx⟩ := by
  refine Run.step (fun β w fr frs cs' hf hfs hs => ?_) h
  obtain ⟨hβ, tmps, h1, h2, h3, h4⟩ := hs.loop hpin hlp
  have hb := run_endLoop (P := P) (w := w) h1 hst
  have hst := stepR_endRangeFunc (P := P) (b := fr) (a := ⟨fr.tmps, fr.defers⟩) (k := k.map SI.item) (cs := frs ++ cs') hb
  refine ⟨β, _, fr.atR ⟨fr.tmps, fr.defers⟩ ((tdAfter pe k).map SI.item), frs, .one ?_, FrRel.of hf.fn hf.rnd hf.kind hf.defers hf.size hf.slot hf.lt ?_, hfs, hs.put hset' hlp trivial hβ ⟨tmps, rfl, h2, h3, h4⟩ (fun _ => lp_fit)⟩
  · have e3 := hf.at
    rw [e3]
    simp only [List.map_cons, SI.item]
    rw [hst]
    cases pe <;> rfl
  · intro y hy
    cases pe with
    | none => exact hf.ok y (List.mem_cons_of_mem _ hy)
    | some c =>
      cases hy with
      | head => trivial
      | tail _ hm => exact hf.ok y (List.mem_cons_of_mem _ hm)

/-- The blocks of collected calls, by their names; none holds a call. -/
def Marks (B : Base) : Hp → List Nat → List DF → Prop
  | _, [], [] => True
  | hp, j :: js, .coll D :: ds => B.pin j = some D ∧ hget j hp = some (.obj (.deferred (some []))) ∧ Marks B (hdrop' [j] hp) js ds
  | _, _, _ => False
def dropSeq : List Nat → Hp → Hp
  | [], hp => hp
  | j :: js, hp => dropSeq js (hdrop' [j] hp)
def dropF {α : Type} : List Nat → Hp → (Hp → α) → α
  | [], hp, k => k hp
  | j :: js, hp, k => hdrop [j] hp fun hp => dropF js hp k
theorem dropF_eq {α : Type} : ∀ (js : List Nat) (hp : Hp) (k : Hp → α), dropF js hp k = k (dropSeq js hp)
  | [], _, _ => rfl
  | j :: js, hp, k => by rw [dropF, hdrop_eq, dropF_eq js]; rfl

theorem marks_steps {β : Env} {nx : Nat} : ∀ {js : List Nat} {ds : List DF} {hp : Hp} {w : World} {fr : Frame}, Marks B hp js ds → Sat β hp ro B nx w → fr.mode = .returning → DfRel β ds fr.defers →
    ∃ w', (∀ cs, Steps P (lone fr cs w) (lone { fr with defers := [] } cs w')) ∧ Sat β (dropSeq js hp) ro B nx w'
  | [], [], hp, w, fr, _, hs, _, hd => ⟨w, fun cs => by
      have : fr = { fr with defers := [] } := by
        have hd : fr.defers = [] := hd
        cases fr; simp only at hd; subst hd; rfl
      rw [← this]; exact Steps.refl _ _, hs⟩
  | [], _ :: _, _, _, _, h, _, _, _ => h.elim
  | _ :: _, [], _, _, _, h, _, _, _ => h.elim
  | _ :: _, .fn _ _ _ :: _, _, _, _, h, _, _, _ => h.elim
  | _ :: _, .late :: _, _, _, _, h, _, _, _ => h.elim
  | j :: js, .coll D :: ds, hp, w, fr, h, hs, hm, hd => by
    obtain ⟨h1, h2, h3⟩ := h
    have hβ := hs.pin _ _ h1
    obtain ⟨b, o, g1, g2, g3, g4, g5⟩ := hs.own _ _ h2 trivial
    rw [hβ] at g1; injection g1 with g1; subst g1
    have g4 : o = .deferred (some []) := g4
    subst g4
    have hk := run_takeDeferred (P := P) (w := w) g3
    obtain ⟨ds', hd, hd'⟩ := hd
    have hst : ∀ cs, step P (lone fr cs w) = .next (lone { fr with defers := [] ++ ds' } cs (w.putObj D (.deferred none))) := fun cs =>
      step_collected (d := { target := .collected D, args := #[] }) (by rw [hm]; simp) hd rfl hk
    obtain ⟨w', q1, q2⟩ := marks_steps (js := js) (ds := ds) (fr := { fr with defers := [] ++ ds' }) h3 (hs.spoil h2 trivial hβ _) hm hd'
    exact ⟨w', fun cs => Steps.head (hst cs) (q1 cs), q2⟩

theorem marks_kind : ∀ {js : List Nat} {ds : List DF} {hp : Hp}, Marks B hp js ds → kindOf ds = .normal
  | [], [], _, _ => rfl
  | [], _ :: _, _, h => h.elim
  | _ :: _, [], _, h => h.elim
  | _ :: _, .fn _ _ _ :: _, _, h => h.elim
  | _ :: _, .late :: _, _, h => h.elim
  | _ :: js, .coll _ :: ds, _, h => marks_kind (js := js) (ds := ds) h.2.2
/-- The way out of a frame that has ranged over functions. -/
theorem out_steps {β : Env} {nx : Nat} {f0 n : Nat} {ds : List DF} {js : List Nat} {sl : Slots} {td : List SI} {hp : Hp} {w : World} {fr : Frame} (hf : FrRel β ⟨⟨f0, none, ds⟩, n, sl, td⟩ fr) (hs : Sat β hp ro B nx w) (htd : td = [] ∨ ∃ k, td = .code .ret :: k)
    (hm : Marks B hp js ds) {cs : List Prop} {v : SV} (hv : resV P f0 sl (dropSeq js hp) ro = some (cs, v)) (hc : conj cs) :
    ∃ fr' w' u, (∀ cs', Steps P (lone fr cs' w) (lone fr' cs' w')) ∧ fr'.fn = f0 ∧ fr'.leaving P w' (.returned u) ∧ Sat β (dropSeq js hp) ro B nx w' ∧ Rel β v u := by
  have hret : ∀ cs', step P (lone fr cs' w) = .next (lone { fr with mode := .returning } cs' w) := by
    intro cs'
    have e := hf.at
    rcases htd with rfl | ⟨k, rfl⟩
    · have := stepR_end (P := P) (b := fr) (a := ⟨fr.tmps, fr.defers⟩) (cs := cs') (w := w) hf.rnd
      rw [e]; exact this
    · have := stepR_ret (P := P) (b := fr) (a := ⟨fr.tmps, fr.defers⟩) (k := k.map SI.item) (cs := cs') (w := w) hf.rnd
      rw [e]; exact this
  obtain ⟨w', h1, h2⟩ := marks_steps (P := P) (fr := { fr with mode := .returning }) hm hs rfl (by exact hf.defers)
  obtain ⟨fd, u, hfd, hres, hru⟩ := resV_run h2 (hf.rho (ds := [])) hv (all_conj hc)
  refine ⟨_, w', u, fun cs' => Steps.head (hret cs') (h1 cs'), hf.fn, ⟨rfl, rfl, hf.kind.trans (marks_kind hm), fd, ?_, hres⟩, h2, hru⟩
  show P.funcs[fr.fn]? = _
  rw [hf.fn]; exact hfd

/-- The end of the lowest frame, after ranges over functions. -/
theorem run_retM (js : List Nat) {n : Nat} {ds : List DF} {sl : Slots} {td : List SI} {hp hp' : Hp} {nx : Nat} {cs : List Prop} {v : SV} (htd : td = [] ∨ ∃ k, td = .code .ret :: k) (hm : Marks B hp js ds) (hd : dropF js hp some = some hp')
    (hv : resV P f sl hp' ro = some (cs, v)) (hc : conj cs)
    (hR : ∀ (β : Env) (w : World) (u : Value), Sat β hp' ro B nx w → Rel β v u → R (.returned u) w) (hk : B.kd = Kind.norm) : Run P ro B f R ⟨⟨⟨f, none, ds⟩, n, sl, td⟩, [], hp, nx⟩ := by
  rw [dropF_eq] at hd
  injection hd with hd; subst hd
  intro β w fr frs cs' hf hfs hs _
  cases hfs
  obtain ⟨fr', w', u, h1, h2, h3, h4, h5⟩ := out_steps hf hs htd hm hv hc
  exact ⟨.returned u, w', fr', hR β w' u h4 h5, by rw [hk]; exact h1 _, h2, by rw [hk]; exact h3.2.2.1, Frame.leaving_out h3⟩

/-- The function that was ranged over returns. -/
theorem run_inR (js : List Nat) {f0 n l : Nat} {ds : List DF} {sl : Slots} {td : List SI} {cfn : FId} {cn : Nat} {csl : Slots} {k : List SI} {rest : List SFr} {hp hp' : Hp} {nx : Nat} {cs : List Prop} {v : SV}
    (htd : td = [] ∨ ∃ k, td = .code .ret :: k) (hm : Marks B hp js ds) (hd : dropF js hp some = some hp') (hv : resV P f0 sl hp' ro = some (cs, v)) (hc : conj cs)
    (h : Run P ro B f R ⟨⟨cfn, cn, csl, .endR l :: k⟩, rest, hp', nx⟩) : Run P ro B f R ⟨⟨⟨f0, none, ds⟩, n, sl, td⟩, ⟨cfn, cn, csl, .inR l :: k⟩ :: rest, hp, nx⟩ := by
  rw [dropF_eq] at hd
  injection hd with hd; subst hd
  refine Run.step (fun β w fr frs cs' hf hfs hs => ?_) h
  cases hfs with
  | cons hc1 hfs' =>
  rename_i cfr frs'
  have hc1 : FrRel β _ cfr := hc1
  obtain ⟨fr', w', u, h1, h2, h3, h4, h5⟩ := out_steps hf hs htd hm hv hc
  have e4 := hc1.at
  refine ⟨β, w', cfr.atR ⟨cfr.tmps, cfr.defers⟩ ((SI.endR l :: k).map SI.item), frs', Steps.trans (h1 _) (.one ?_), FrRel.of hc1.fn hc1.rnd hc1.kind hc1.defers hc1.size hc1.slot hc1.lt ?_, hfs', h4⟩
  · have := step_leave_returned (c := cfr) (cs := frs' ++ cs') h3
    rw [List.cons_append]
    refine Eq.trans this ?_
    congr 2
    rw [e4]
    simp only [List.map_cons, SI.item]
    rw [finish_atR_inRangeFunc]; rfl
  · intro x hx
    cases hx with
    | head => trivial
    | tail _ hm => exact hc1.ok x (List.mem_cons_of_mem _ hm)
end
end Sx
end
