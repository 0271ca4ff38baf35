/- A region that draws its order: what holds while a block is under way. No condition. -/
import Derived.Test.YtpjabkjacldgcaaEng14
namespace Sx
open Go

theorem thin_get {k : List Nat} : ∀ {sl sl' : Slots}, thin k sl = some sl' → ∀ t, look t sl' = if hasN t k = true then look t sl else none
  | [], sl', h, t => by injection h with h; subst h; simp [look]
  | (i, u) :: r, sl', h, t => by
    simp only [thin] at h
    split at h <;> first | exact (none_ne h).elim | skip
    rename_i r' hr
    have ih := thin_get hr t
    cases hk : hasN i k with
    | true =>
      rw [hk] at h; simp only [cond_true, Option.some.injEq] at h; subst h
      simp only [look]
      cases hb : Nat.beq t i with
      | true => have := beq_nat hb; subst this; simp [hk]
      | false => simpa using ih
    | false =>
      rw [hk] at h; simp only [cond_false, Option.some.injEq] at h; subst h
      simp only [look]
      cases hb : Nat.beq t i with
      | true => have := beq_nat hb; subst this; rw [ih]; simp [hk]
      | false => simpa using ih
theorem thinH_get {k : List Nat} : ∀ {sl sl' : Hp}, thinH k sl = some sl' → ∀ t, hget t sl' = if hasN t k = true then hget t sl else none
  | [], sl', h, t => by injection h with h; subst h; simp [hget]
  | (i, u) :: r, sl', h, t => by
    simp only [thinH] at h
    split at h <;> first | exact (none_ne h).elim | skip
    rename_i r' hr
    have ih := thinH_get hr t
    cases hk : hasN i k with
    | true =>
      rw [hk] at h; simp only [cond_true, Option.some.injEq] at h; subst h
      simp only [hget]
      cases hb : Nat.beq t i with
      | true => have := beq_nat hb; subst this; simp [hk]
      | false => simpa using ih
    | false =>
      rw [hk] at h; simp only [cond_false, Option.some.injEq] at h; subst h
      simp only [hget]
      cases hb : Nat.beq t i with
      | true => have := beq_nat hb; subst this; rw [ih]; simp [hk]
      | false => simpa using ih
theorem hdel_get {i : Nat} : ∀ {hp r : Hp}, hdel i hp = some r → ∀ j, hget j r = if j = i then none else hget j hp
  | [], r, h, j => by injection h with h; subst h; simp [hget]
  | (k, v) :: hp, r, h, j => by
    simp only [hdel] at h
    split at h <;> first | exact (none_ne h).elim | skip
    rename_i r' hr
    have ih := hdel_get hr j
    cases hb : Nat.beq i k with
    | true =>
      rw [hb] at h; simp only [cond_true, Option.some.injEq] at h; subst h
      have := beq_nat hb; subst this
      rw [ih]
      simp only [hget]
      by_cases e : j = i
      · simp [e]
      · simp [e, beq_false_of e]
    | false =>
      rw [hb] at h; simp only [cond_false, Option.some.injEq] at h; subst h
      simp only [hget]
      have hne := beq_ne hb
      cases hj : Nat.beq j k with
      | true => have := beq_nat hj; subst this; simp [Ne.symm hne]
      | false => simpa using ih
def hputV (wh : Option (Nat × SO)) (hp : Hp) (j : Nat) : Option SO := match wh with
  | some p => if j = p.1 then some p.2 else hget j hp
  | none => hget j hp
theorem hput_get {wh : Option (Nat × SO)} {hp hp' : Hp} (h : hput wh hp = some hp') (j : Nat) : hget j hp' = hputV wh hp j := by
  unfold hputV
  cases wh with
  | none => injection h with h; subst h; rfl
  | some p =>
    obtain ⟨i, so⟩ := p
    simp only [hput] at h
    split at h <;> first | exact (none_ne h).elim | skip
    rename_i r hr
    injection h with h; subst h
    simp only [hget]
    by_cases e : j = i
    · subst e; simp [Nat.beq_refl]
    · rw [beq_false_of e, if_neg e]; simp only [cond_false]; rw [hdel_get hr, if_neg e]
def hmodV (d : DR) (hp : Hp) (j : Nat) : Option SO := match d.wh with
  | some p => if j = p.1 then some p.2 else if j ∈ d.dl then none else hget j hp
  | none => if j ∈ d.dl then none else hget j hp
theorem hmod_get {d : DR} {hp hp' : Hp} (h : hmod d hp = some hp') (j : Nat) : hget j hp' = hmodV d hp j := by
  unfold hmod at h
  unfold hmodV
  split at h
  · rename_i e
    have := hput_get h j
    unfold hputV at this
    rw [this, e]
    cases d.wh <;> simp
  · rename_i k ks e
    rw [hdrop_eq] at h
    have := hput_get h j
    unfold hputV at this
    rw [this, e]
    cases d.wh <;> simp only [hdrop_get]
theorem put_look {dst : Option Tmp} {s : SV} {n : Nat} {sl sl' : Slots} (h : put dst s n sl = some sl') (t : Nat) :
    (look t sl' = if dst = some t then some s else look t sl) ∧ (dst = some t → t < n) := by
  cases dst with
  | none => injection h with h; subst h; simp
  | some d =>
    simp only [put, SV.force_eq] at h
    cases hb : Nat.ble (d + 1) n with
    | false => rw [hb] at h; cases h
    | true =>
      rw [hb] at h; simp only [cond_true, Option.some.injEq] at h; subst h
      have := ble_nat hb
      simp only [look]
      by_cases e : t = d
      · subst e; rw [Nat.beq_refl]; simp; omega
      · rw [beq_false_of e]; simp [Ne.symm e]

theorem dop_dst {P : Program} {M : Mode} {ro : Hp} {ops : Array Oper} {idn : Nat} {o : Oper} {sl : Slots} {hp : Hp} {cs : List Prop} {d : DR} (h : dop P M ro ops idn o sl hp = some (cs, d)) : d.dst = o.dst := by
  simp only [dop] at h
  repeat' (split at h)
  all_goals first
    | exact (none_ne h).elim
    | (simp only [Option.some.injEq, Prod.mk.injEq] at h; obtain ⟨-, rfl⟩ := h; rfl)
    | (rw [cond_eq_ite] at h; split at h <;> first | exact (none_ne h).elim | (simp only [Option.some.injEq, Prod.mk.injEq] at h; obtain ⟨-, rfl⟩ := h; rfl))


/-- A block's run in the text's order: the states between its operations. -/
structure Chain (P : Program) (M : Mode) (ro : Hp) (ops : Array Oper) (n idn m b : Nat) (Sl : Nat → Slots) (Hs : Nat → Hp) (dr : Nat → DR) : Prop where
  step : ∀ j, j < b → ∃ o cs, ops[m + j]? = some o ∧ All cs ∧ dop P M ro ops (idn + j) o (Sl j) (Hs j) = some (cs, dr j) ∧
    put o.dst (dr j).v n (Sl j) = some (Sl (j + 1)) ∧ hmod (dr j) (Hs j) = some (Hs (j + 1))

theorem dblk_chain {P : Program} {M : Mode} {ro : Hp} {ops : Array Oper} {n : Nat} : ∀ {os : List Oper} {idn m : Nat} {sl sl' : Slots} {hp hp' : Hp} {acc cs : List Prop} {l : List DR},
    dblk P M ro ops n os idn sl hp acc = some (cs, sl', hp', l) → All cs → (∀ i, i < os.length → ops[m + i]? = os[i]?) →
    (∀ p ∈ acc, p ∈ cs) ∧ ∃ (Sl : Nat → Slots) (Hs : Nat → Hp) (dr : Nat → DR), Sl 0 = sl ∧ Hs 0 = hp ∧ Sl os.length = sl' ∧ Hs os.length = hp' ∧ Chain P M ro ops n idn m os.length Sl Hs dr ∧ ∀ j, j < os.length → l[j]? = some (dr j)
  | [], idn, m, sl, sl', hp, hp', acc, cs, l, h, hc, ho => by
    simp only [dblk, Option.some.injEq, Prod.mk.injEq] at h
    obtain ⟨rfl, rfl, rfl, rfl⟩ := h
    exact ⟨fun _ h => h, fun _ => sl, fun _ => hp, fun _ => ⟨[], none, [], none, [], .und⟩, rfl, rfl, rfl, rfl, ⟨fun j hj => by simp at hj⟩, fun j hj => by simp at hj⟩
  | o :: os, idn, m, sl, sl', hp, hp', acc, cs, l, h, hc, ho => by
    simp only [dblk, natF_eq] at h
    split at h <;> first | exact (none_ne h).elim | skip
    rename_i cs1 d e1
    split at h <;> first | exact (none_ne h).elim | skip
    rename_i sl1 e2
    split at h <;> first | exact (none_ne h).elim | skip
    rename_i hp1 e3
    have key : ∀ acc', (∀ p, p ∈ cs1 ∨ p ∈ acc → p ∈ acc') → (match dblk P M ro ops n os (idn + 1) sl1 hp1 acc' with
        | some (ds, sl2, hp2, l) => some (ds, sl2, hp2, d :: l)
        | none => none) = some (cs, sl', hp', l) → (∀ p ∈ acc, p ∈ cs) ∧ ∃ (Sl : Nat → Slots) (Hs : Nat → Hp) (dr : Nat → DR), Sl 0 = sl ∧ Hs 0 = hp ∧ Sl (o :: os).length = sl' ∧ Hs (o :: os).length = hp' ∧
          Chain P M ro ops n idn m (o :: os).length Sl Hs dr ∧ ∀ j, j < (o :: os).length → l[j]? = some (dr j) := by
      intro acc' hacc h
      split at h <;> first | exact (none_ne h).elim | skip
      rename_i ds sl2 hp2 l' e4
      simp only [Option.some.injEq, Prod.mk.injEq] at h
      obtain ⟨rfl, rfl, rfl, rfl⟩ := h
      obtain ⟨g0, Sl, Hs, dr, g1, g2, g3, g4, g5, g6⟩ := dblk_chain (m := m + 1) e4 hc (fun i hi => by
        have := ho (i + 1) (by simp; omega)
        rw [show m + 1 + i = m + (i + 1) by omega, this]; simp)
      refine ⟨fun p hp => g0 p (hacc p (.inr hp)), fun k => match k with | 0 => sl | k + 1 => Sl k, fun k => match k with | 0 => hp | k + 1 => Hs k, fun k => match k with | 0 => d | k + 1 => dr k, rfl, rfl, g3, g4, ⟨fun j hj => ?_⟩, fun j hj => ?_⟩
      · cases j with
        | zero => exact ⟨o, cs1, by simpa using ho 0 (by simp), fun p hp => hc p (g0 p (hacc p (.inl hp))), e1, by simpa [g1] using e2, by simpa [g2] using e3⟩
        | succ j =>
          obtain ⟨o', cs', k1, k2, k3, k4, k5⟩ := g5.step j (by simpa using hj)
          exact ⟨o', cs', by rw [show m + (j + 1) = m + 1 + j by omega]; exact k1, k2, by rw [show idn + (j + 1) = idn + 1 + j by omega]; exact k3, k4, k5⟩
      · cases j with
        | zero => simp
        | succ j => simpa using g6 j (by simpa using hj)
    split at h
    · rename_i e; exact key [] (fun p hp => by have := pushAll_mem (cs := cs1) (acc := acc) hp; rw [e] at this; exact this) h
    · rename_i p ps e; exact key (p :: ps) (fun p hp => by have := pushAll_mem (cs := cs1) (acc := acc) hp; rw [e] at this; exact this) h

section
variable (T : List (List Nat)) (m b nx : Nat) (Sl : Nat → Slots) (Hs : Nat → Hp) (dr : Nat → DR) (ro : Hp) (B : Base)

/-- Slot t was last written, among the operations of X, by the one before k (k = 0: by none). -/
def LastS (X : Nat → Prop) (t k : Nat) : Prop := k ≤ b ∧ (k = 0 ∨ (X (k - 1) ∧ (dr (k - 1)).dst = some t)) ∧ ∀ i, X i → (dr i).dst = some t → i < k
def LastH (X : Nat → Prop) (t k : Nat) : Prop := k ≤ b ∧ (k = 0 ∨ (X (k - 1) ∧ t ∈ (dr (k - 1)).mod)) ∧ ∀ i, X i → t ∈ (dr i).mod → i < k

structure Inv (X : Nat → Prop) (β : Env) (tmps : Array Value) (w : World) : Prop where
  S : ∀ t k v, LastS b dr X t k → look t (Sl k) = some v → Rel β v (tmps.getD t undef)
  H : ∀ t k s, LastH b dr X t k → hget t (Hs k) = some s → s.Live → ∃ bl o, β t = some bl ∧ B.D bl = none ∧ w.heap[bl]? = some o ∧ ORel β s o ∧ Fit (β.room t) o
  A : ∀ t k s t' k' s', LastH b dr X t k → hget t (Hs k) = some s → LastH b dr X t' k' → hget t' (Hs k') = some s' → s.Live → s'.Live → t ≠ t' → β t ≠ β t'
  F : ∀ i bl, β i = some bl → i < nx ∨ ∃ j, X j ∧ i = nx + j
  read : ∀ i s, hget i ro = some s → s.Live → ∃ b o, β i = some b ∧ B.D b = some o ∧ ORel β s o
  old : ∀ b o, B.D b = some o → w.heap[b]? = some o
  os : w.os = B.w.os
  tape : w.tape = B.w.tape
  output : w.output = B.w.output
  size : B.w.heap.size ≤ w.heap.size
  pin : B.pin.le β
end

/-- The last write at or before j in the text's order. -/
theorem last_before (p : Nat → Prop) (j : Nat) : ∃ k, k ≤ j ∧ (k = 0 ∨ p (k - 1)) ∧ ∀ i, k ≤ i → i < j → ¬ p i := by
  induction j with
  | zero => exact ⟨0, Nat.le_refl _, .inl rfl, fun i h1 h2 => by omega⟩
  | succ j ih =>
    by_cases h : p j
    · exact ⟨j + 1, Nat.le_refl _, .inr h, fun i h1 h2 => by omega⟩
    · obtain ⟨k, h1, h2, h3⟩ := ih
      refine ⟨k, by omega, h2, fun i g1 g2 => ?_⟩
      by_cases e : i = j
      · subst e; exact h
      · exact h3 i g1 (by omega)

theorem keep_look {P : Program} {M : Mode} {ro : Hp} {ops : Array Oper} {n idn m b : Nat} {Sl : Nat → Slots} {Hs : Nat → Hp} {dr : Nat → DR} (hch : Chain P M ro ops n idn m b Sl Hs dr) (t : Nat) :
    ∀ (d k : Nat), k + d ≤ b → (∀ i, k ≤ i → i < k + d → ¬ (dr i).dst = some t) → look t (Sl (k + d)) = look t (Sl k)
  | 0, k, h, hn => rfl
  | d + 1, k, h, hn => by
    rw [← keep_look hch t d k (by omega) (fun i h1 h2 => hn i h1 (by omega))]
    obtain ⟨o, cs, h1, h2, h3, h4, h5⟩ := hch.step (k + d) (by omega)
    have := (put_look h4 t).1
    rw [show k + (d + 1) = k + d + 1 by omega, this, if_neg]
    rw [← dop_dst h3]; exact hn (k + d) (by omega) (by omega)
theorem keep_hget {P : Program} {M : Mode} {ro : Hp} {ops : Array Oper} {n idn m b : Nat} {Sl : Nat → Slots} {Hs : Nat → Hp} {dr : Nat → DR} (hch : Chain P M ro ops n idn m b Sl Hs dr) (t : Nat) :
    ∀ (d k : Nat), k + d ≤ b → (∀ i, k ≤ i → i < k + d → ¬ t ∈ (dr i).mod) → hget t (Hs (k + d)) = hget t (Hs k)
  | 0, k, h, hn => rfl
  | d + 1, k, h, hn => by
    rw [← keep_hget hch t d k (by omega) (fun i h1 h2 => hn i h1 (by omega))]
    obtain ⟨o, cs, h1, h2, h3, h4, h5⟩ := hch.step (k + d) (by omega)
    have := hmod_get h5 t
    rw [show k + (d + 1) = k + d + 1 by omega, this]
    have hw := hn (k + d) (by omega) (by omega)
    unfold DR.mod at hw
    unfold hmodV
    cases hwh : (dr (k + d)).wh with
    | none =>
      rw [hwh] at hw
      exact if_neg hw
    | some p =>
      obtain ⟨i, so⟩ := p
      rw [hwh] at hw
      simp only [List.mem_cons, not_or] at hw ⊢
      rw [if_neg hw.1, if_neg hw.2]

/-- What X owes: it holds what its operations wait for, and it lies in the block. -/
structure Closed (T : List (List Nat)) (m b : Nat) (X : Nat → Prop) : Prop where
  lt : ∀ i, X i → i < b
  down : ∀ i j, X j → i < b → inT T (m + i) (m + j) = true → X i

def Indeps (T : List (List Nat)) (m b : Nat) (dr : Nat → DR) : Prop := ∀ i j, i < j → j < b → inT T (m + i) (m + j) = false → indep (dr i) (dr j) = true

theorem disj1_spec {x : Option Nat} {l : List Nat} {y : Option Nat} (h : disj1 x l y = true) {i : Nat} (hx : x = some i) : i ∉ l ∧ y ≠ some i := by
  subst hx
  simp only [disj1, Bool.and_eq_true, Bool.not_eq_true'] at h
  refine ⟨fun hm => ?_, fun e => ?_⟩
  · rw [hasN_mem.2 hm] at h; cases h.1
  · subst e; simp [Nat.beq_refl] at h

theorem disjL_spec {b : List Nat} : ∀ {l : List Nat}, disjL b l = true → ∀ i ∈ l, i ∉ b
  | [], _, i, h => by cases h
  | j :: r, h, i, hi => by
    simp only [disjL, Bool.and_eq_true, Bool.not_eq_true'] at h
    cases hi with
    | head => intro hm; rw [hasN_mem.2 hm] at h; cases h.1
    | tail _ hm => exact disjL_spec h.2 i hm
section
variable {P : Program} {M : Mode} {ro : Hp} {ops : Array Oper} {T : List (List Nat)} {n nx m b : Nat} {Sl : Nat → Slots} {Hs : Nat → Hp} {dr : Nat → DR} {B : Base}

/-- A slot that operation j reads was last written, among X's, just where the text's order has it. -/
theorem read_slot (hch : Chain P M ro ops n nx m b Sl Hs dr) (hin : Indeps T m b dr) {X : Nat → Prop} (hX : Closed T m b X) {j : Nat} (hj : j < b) (hjX : ¬ X j) (hpre : ∀ i, i < b → inT T (m + i) (m + j) = true → X i)
    {t : Nat} (ht : t ∈ (dr j).rs) : ∃ k, LastS b dr X t k ∧ look t (Sl k) = look t (Sl j) := by
  obtain ⟨k, h1, h2, h3⟩ := last_before (fun i => (dr i).dst = some t) j
  refine ⟨k, ⟨by omega, ?_, ?_⟩, ?_⟩
  · by_cases hk : k = 0
    · exact .inl hk
    · have h2 := h2.resolve_left hk
      refine .inr ⟨?_, h2⟩
      cases hT : inT T (m + (k - 1)) (m + j) with
      | true => exact hpre _ (by omega) hT
      | false =>
        have := hin (k - 1) j (by omega) hj hT
        simp only [indep, Bool.and_eq_true] at this
        exact absurd ht (disj1_spec this.1.1.1.1 h2).1
  · intro i hi hd
    rcases Nat.lt_or_ge i k with h | h
    · exact h
    · exfalso
      rcases Nat.lt_trichotomy i j with g | g | g
      · exact h3 i h g hd
      · subst g; exact hjX hi
      · cases hT : inT T (m + j) (m + i) with
        | true => exact hjX (hX.down j i hi hj hT)
        | false =>
          have := hin j i g (hX.lt i hi) hT
          simp only [indep, Bool.and_eq_true] at this
          exact (disj1_spec this.1.1.1.2 hd).1 ht
  · have := keep_look hch t (j - k) k (by omega) (fun i g1 g2 => h3 i g1 (by omega))
    rw [show k + (j - k) = j by omega] at this; exact this.symm
theorem read_heap (hch : Chain P M ro ops n nx m b Sl Hs dr) (hin : Indeps T m b dr) {X : Nat → Prop} (hX : Closed T m b X) {j : Nat} (hj : j < b) (hjX : ¬ X j) (hpre : ∀ i, i < b → inT T (m + i) (m + j) = true → X i)
    {t : Nat} (ht : t ∈ (dr j).rh) : ∃ k, LastH b dr X t k ∧ hget t (Hs k) = hget t (Hs j) := by
  obtain ⟨k, h1, h2, h3⟩ := last_before (fun i => t ∈ (dr i).mod) j
  refine ⟨k, ⟨by omega, ?_, ?_⟩, ?_⟩
  · by_cases hk : k = 0
    · exact .inl hk
    · have h2 := h2.resolve_left hk
      refine .inr ⟨?_, h2⟩
      cases hT : inT T (m + (k - 1)) (m + j) with
      | true => exact hpre _ (by omega) hT
      | false =>
        have := hin (k - 1) j (by omega) hj hT
        simp only [indep, Bool.and_eq_true] at this
        exact absurd ht (disjL_spec this.1.1.2 _ h2)
  · intro i hi hd
    rcases Nat.lt_or_ge i k with h | h
    · exact h
    · exfalso
      rcases Nat.lt_trichotomy i j with g | g | g
      · exact h3 i h g hd
      · subst g; exact hjX hi
      · cases hT : inT T (m + j) (m + i) with
        | true => exact hjX (hX.down j i hi hj hT)
        | false =>
          have := hin j i g (hX.lt i hi) hT
          simp only [indep, Bool.and_eq_true] at this
          exact disjL_spec this.2 _ hd ht
  · have := keep_hget hch t (j - k) k (by omega) (fun i g1 g2 => h3 i g1 (by omega))
    rw [show k + (j - k) = j by omega] at this; exact this.symm

/-- Behind operation j: who wrote last. -/
theorem lastS_after (hin : Indeps T m b dr) {X : Nat → Prop} (hX : Closed T m b X) {j : Nat} (hj : j < b) (hjX : ¬ X j) {t k : Nat} (h : LastS b dr (fun i => X i ∨ i = j) t k) :
    ((dr j).dst = some t ∧ k = j + 1) ∨ ((dr j).dst ≠ some t ∧ LastS b dr X t k) := by
  obtain ⟨h1, h2, h3⟩ := h
  by_cases hd : (dr j).dst = some t
  · left
    refine ⟨hd, ?_⟩
    have hk := h3 j (.inr rfl) hd
    rcases h2 with h2 | ⟨h2 | h2, h4⟩
    · omega
    · exfalso
      have hlt : j < k - 1 ∨ k - 1 = j := by omega
      rcases hlt with g | g
      · cases hT : inT T (m + j) (m + (k - 1)) with
        | true => exact hjX (hX.down j _ h2 hj hT)
        | false =>
          have := hin j (k - 1) g (hX.lt _ h2) hT
          simp only [indep, Bool.and_eq_true] at this
          exact (disj1_spec this.1.1.1.1 hd).2 h4
      · rw [g] at h2; exact hjX h2
    · omega
  · right
    refine ⟨hd, h1, ?_, fun i hi he => h3 i (.inl hi) he⟩
    rcases h2 with h2 | ⟨h2 | h2, h4⟩
    · exact .inl h2
    · exact .inr ⟨h2, h4⟩
    · rw [h2] at h4; exact absurd h4 hd
theorem lastH_after (hin : Indeps T m b dr) {X : Nat → Prop} (hX : Closed T m b X) {j : Nat} (hj : j < b) (hjX : ¬ X j) {t k : Nat} (h : LastH b dr (fun i => X i ∨ i = j) t k) :
    (t ∈ (dr j).mod ∧ k = j + 1) ∨ (t ∉ (dr j).mod ∧ LastH b dr X t k) := by
  obtain ⟨h1, h2, h3⟩ := h
  by_cases hd : t ∈ (dr j).mod
  · left
    refine ⟨hd, ?_⟩
    have hk := h3 j (.inr rfl) hd
    rcases h2 with h2 | ⟨h2 | h2, h4⟩
    · omega
    · exfalso
      have hlt : j < k - 1 ∨ k - 1 = j := by omega
      rcases hlt with g | g
      · cases hT : inT T (m + j) (m + (k - 1)) with
        | true => exact hjX (hX.down j _ h2 hj hT)
        | false =>
          have := hin j (k - 1) g (hX.lt _ h2) hT
          simp only [indep, Bool.and_eq_true] at this
          exact disjL_spec this.1.2 _ hd h4
      · rw [g] at h2; exact hjX h2
    · omega
  · right
    refine ⟨hd, h1, ?_, fun i hi he => h3 i (.inl hi) he⟩
    rcases h2 with h2 | ⟨h2 | h2, h4⟩
    · exact .inl h2
    · exact .inr ⟨h2, h4⟩
    · rw [h2] at h4; exact absurd h4 hd
end
end Sx
