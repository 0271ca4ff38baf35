/- Other names for the known blocks, and when one symbolic value says less than another. No condition. -/
import Derived.Test.YtpjabkjacldgcaaEng18
namespace Sx
open Go

/-- The name of the i-th known block: the list's, or a new one from nx on. -/
def sig (nx : Nat) (sg : List Nat) (i : Nat) : Nat :=
  match nth sg i with
  | some j => j
  | none => nx + (i - sg.length)

mutual
def renF {α : Type} (nx : Nat) (sg : List Nat) : SV → (SV → α) → α
  | .int k n, f => f (.int k n)
  | .tt, f => f .tt
  | .ff, f => f .ff
  | .sb b, f => f (.sb b)
  | .cnd g v, f => renF nx sg v fun v => f (.cnd g v)
  | .ptr i off, f => natF (sig nx sg i) fun i => f (.ptr i off)
  | .ep i off e sz k, f => natF (sig nx sg i) fun i => f (.ep i off e sz k)
  | .nil, f => f .nil
  | .sl i off s sz len cap, f => natF (sig nx sg i) fun i => f (.sl i off s sz len cap)
  | .sq i off s sz len ap, f => natF (sig nx sg i) fun i => f (.sq i off s sz len ap)
  | .nilsl, f => f .nilsl
  | .mp i, f => natF (sig nx sg i) fun i => f (.mp i)
  | .nilmp, f => f .nilmp
  | .agg vs, f => renFL nx sg vs fun vs => f (.agg vs)
  | .tup vs, f => renFL nx sg vs fun vs => f (.tup vs)
  | .clo fn a c, f => renFL nx sg a fun a => renFL nx sg c fun c => f (.clo fn a c)
  | .nilf, f => f .nilf
  | .ifc t v, f => renF nx sg v fun v => f (.ifc t v)
  | .nilif, f => f .nilif
  | .str s, f => f (.str s)
  | .und, f => f .und
def renFL {α : Type} (nx : Nat) (sg : List Nat) : List SV → (List SV → α) → α
  | [], f => f []
  | v :: vs, f => renF nx sg v fun v => renFL nx sg vs fun vs => f (v :: vs)
end
/-- The value under the other names. -/
def ren (nx : Nat) (sg : List Nat) (v : SV) : SV := renF nx sg v id
def renL (nx : Nat) (sg : List Nat) (vs : List SV) : List SV := renFL nx sg vs id

mutual
theorem renF_eq {α : Type} (nx : Nat) (sg : List Nat) : ∀ (v : SV) (f : SV → α), renF nx sg v f = f (ren nx sg v)
  | .int .., f | .tt, f | .ff, f | .sb .., f | .nil, f | .nilsl, f | .nilmp, f | .nilf, f | .nilif, f | .str .., f | .und, f => by simp only [ren, renF, id]
  | .ptr .., f | .ep .., f | .sl .., f | .sq .., f | .mp .., f => by simp only [ren, renF, natF_eq, id]
  | .cnd g v, f => by simp only [ren, renF]; rw [renF_eq nx sg v, renF_eq nx sg v]; rfl
  | .ifc t v, f => by simp only [ren, renF]; rw [renF_eq nx sg v, renF_eq nx sg v]; rfl
  | .agg vs, f => by simp only [ren, renF]; rw [renFL_eq nx sg vs, renFL_eq nx sg vs]; rfl
  | .tup vs, f => by simp only [ren, renF]; rw [renFL_eq nx sg vs, renFL_eq nx sg vs]; rfl
  | .clo fn a c, f => by simp only [ren, renF]; rw [renFL_eq nx sg a, renFL_eq nx sg a, renFL_eq nx sg c, renFL_eq nx sg c]; rfl
theorem renFL_eq {α : Type} (nx : Nat) (sg : List Nat) : ∀ (vs : List SV) (f : List SV → α), renFL nx sg vs f = f (renL nx sg vs)
  | [], f => by simp only [renL, renFL, id]
  | v :: vs, f => by simp only [renL, renFL]; rw [renF_eq nx sg v, renF_eq nx sg v, renFL_eq nx sg vs, renFL_eq nx sg vs]; rfl
end
theorem renL_cons (nx : Nat) (sg : List Nat) (v : SV) (vs : List SV) : renL nx sg (v :: vs) = ren nx sg v :: renL nx sg vs := by
  rw [renL, renFL, renF_eq, renFL_eq]; rfl
theorem renL_nil (nx : Nat) (sg : List Nat) : renL nx sg [] = [] := by simp only [renL, renFL, id]

/-- The places under the other names. -/
def Env.via (β : Env) (nx : Nat) (sg : List Nat) : Env := ⟨fun i => β (sig nx sg i), fun i => β.room (sig nx sg i)⟩

mutual
theorem ren_rel {β : Env} {nx : Nat} {sg : List Nat} : ∀ (s : SV) (v : Value), Rel β (ren nx sg s) v ↔ Rel (β.via nx sg) s v
  | .int .., v | .tt, v | .ff, v | .sb .., v | .nil, v | .nilsl, v | .nilmp, v | .nilf, v | .nilif, v | .str .., v | .und, v => by simp only [ren, renF, id, Rel]
  | .ptr .., v | .ep .., v | .sl .., v | .sq .., v | .mp .., v => by simp only [ren, renF, natF_eq, id, Rel, Env.via]
  | .cnd g s, v => by
    rw [show ren nx sg (.cnd g s) = .cnd g (ren nx sg s) by rw [ren, renF, renF_eq]; rfl]
    simp only [Rel, ren_rel s v]
  | .ifc t s, v => by
    rw [show ren nx sg (.ifc t s) = .ifc t (ren nx sg s) by rw [ren, renF, renF_eq]; rfl]
    simp only [Rel]
    constructor
    · rintro ⟨u, h1, h2⟩; exact ⟨u, h1, (ren_rel s u).1 h2⟩
    · rintro ⟨u, h1, h2⟩; exact ⟨u, h1, (ren_rel s u).2 h2⟩
  | .agg vs, v => by
    rw [show ren nx sg (.agg vs) = .agg (renL nx sg vs) by rw [ren, renF, renFL_eq]; rfl]
    simp only [Rel]
    constructor
    · rintro ⟨u, h1, h2⟩; exact ⟨u, h1, (renL_rel vs u).1 h2⟩
    · rintro ⟨u, h1, h2⟩; exact ⟨u, h1, (renL_rel vs u).2 h2⟩
  | .tup vs, v => by
    rw [show ren nx sg (.tup vs) = .tup (renL nx sg vs) by rw [ren, renF, renFL_eq]; rfl]
    simp only [Rel]
    constructor
    · rintro ⟨u, h1, h2⟩; exact ⟨u, h1, (renL_rel vs u).1 h2⟩
    · rintro ⟨u, h1, h2⟩; exact ⟨u, h1, (renL_rel vs u).2 h2⟩
  | .clo fn a c, v => by
    rw [show ren nx sg (.clo fn a c) = .clo fn (renL nx sg a) (renL nx sg c) by rw [ren, renF, renFL_eq, renFL_eq]; rfl]
    simp only [Rel]
    constructor
    · rintro ⟨u, x, h1, h2, h3⟩; exact ⟨u, x, h1, (renL_rel a u).1 h2, (renL_rel c x).1 h3⟩
    · rintro ⟨u, x, h1, h2, h3⟩; exact ⟨u, x, h1, (renL_rel a u).2 h2, (renL_rel c x).2 h3⟩
theorem renL_rel {β : Env} {nx : Nat} {sg : List Nat} : ∀ (s : List SV) (v : List Value), RelL β (renL nx sg s) v ↔ RelL (β.via nx sg) s v
  | [], v => by rw [renL_nil]; simp only [RelL]
  | s :: ss, v => by
    rw [renL_cons]
    simp only [RelL]
    constructor
    · rintro ⟨u, us, h1, h2, h3⟩; exact ⟨u, us, h1, (ren_rel s u).1 h2, (renL_rel ss us).1 h3⟩
    · rintro ⟨u, us, h1, h2, h3⟩; exact ⟨u, us, h1, (ren_rel s u).2 h2, (renL_rel ss us).2 h3⟩
end

/-- v says no more than u. -/
def Less (v u : SV) : Prop := ∀ (β : Env) (x : Value), Rel β u x → Rel β v x
theorem Less.rfl {v : SV} : Less v v := fun _ _ h => h
theorem less_rfl (v : SV) : Less v v ↔ True := ⟨fun _ => trivial, fun _ => Less.rfl⟩
theorem Less.of {v u : SV} (h : v = u) : Less v u := h ▸ Less.rfl

mutual
/-- The first word says no more than the second. -/
def apLe : Ap → Ap → Bool
  | .no, _ => true
  | .own, .own => true
  | .full, .full => true
  | _, _ => false
/-- What is owed for the first to say no more than the second. -/
def eqV : SV → SV → Option (List Prop)
  | .und, _ => some []
  | .int k a, .int k' b => bif keq k k' then some [a = b] else none
  | .tt, .tt => some []
  | .tt, .sb b => some [b = true]
  | .ff, .ff => some []
  | .ff, .sb b => some [b = false]
  | .sb a, .sb b => some [a = b]
  | .sb a, .tt => some [a = true]
  | .sb a, .ff => some [a = false]
  | .ptr i off, .ptr i' off' => bif Nat.beq i i' then some [off = off'] else none
  | .ep i off e sz k, .ep i' off' e' sz' k' => bif Nat.beq i i' then some [off = off' ∧ e = e' ∧ sz = sz' ∧ k = k'] else none
  | .nil, .nil => some []
  | .sl i off s sz len cap, .sl i' off' s' sz' len' cap' => bif Nat.beq i i' then some [off = off' ∧ s = s' ∧ sz = sz', len = len', cap = cap'] else none
  | .sq i off s sz len ap, .sq i' off' s' sz' len' ap' => bif Nat.beq i i' && apLe ap ap' then some [off = off' ∧ s = s' ∧ sz = sz', len = len'] else none
  | .sq _ _ _ _ len _, .nilsl => some [len = 0]
  | .sq i off s sz len .no, .sl i' off' s' sz' len' _ => bif Nat.beq i i' then some [off = off' ∧ s = s' ∧ sz = sz', len = len'] else none
  | .nilsl, .nilsl => some []
  | .mp i, .mp i' => bif Nat.beq i i' then some [] else none
  | .nilmp, .nilmp => some []
  | .agg vs, .agg us => eqL vs us
  | .tup vs, .tup us => eqL vs us
  | .clo fn a c, .clo fn' a' c' => match eqL a a', eqL c c' with
    | some x, some y => some ((fn = fn') :: x ++ y)
    | _, _ => none
  | .nilf, .nilf => some []
  | .ifc t v, .ifc t' v' => match eqV v v' with
    | some x => some ((t = t') :: x)
    | none => none
  | .nilif, .nilif => some []
  | .str s, .str s' => some [s = s']
  | _, _ => none
def eqL : List SV → List SV → Option (List Prop)
  | [], [] => some []
  | v :: vs, u :: us => match eqV v u, eqL vs us with
    | some x, some y => some (x ++ y)
    | _, _ => none
  | _, _ => none
end
theorem keq_spec {a b : IntKind} (h : keq a b = true) : a = b := by
  unfold keq at h
  split at h <;> first | rfl | exact absurd h (by simp)
mutual
theorem eqV_less : ∀ (v u : SV) (cs : List Prop), eqV v u = some cs → All cs → Less v u := by
  intro v u cs h hc β x hx
  match v, u with
  | .und, _ => trivial
  | .int k a, .int k' b =>
    obtain ⟨h1, rfl⟩ := bif_some h
    rw [keq_spec h1, show a = b from hc.head]; exact hx
  | .tt, .tt => exact hx
  | .tt, .sb b => injection h with h; subst h; rw [show b = true from hc.head] at hx; exact hx
  | .ff, .ff => exact hx
  | .ff, .sb b => injection h with h; subst h; rw [show b = false from hc.head] at hx; exact hx
  | .sb a, .sb b => injection h with h; subst h; rw [show a = b from hc.head]; exact hx
  | .sb a, .tt => injection h with h; subst h; rw [show a = true from hc.head]; exact hx
  | .sb a, .ff => injection h with h; subst h; rw [show a = false from hc.head]; exact hx
  | .ptr i off, .ptr i' off' =>
    obtain ⟨h1, rfl⟩ := bif_some h
    rw [beq_nat h1, show off = off' from hc.head]; exact hx
  | .ep i off e sz k, .ep i' off' e' sz' k' =>
    obtain ⟨h1, rfl⟩ := bif_some h
    obtain ⟨rfl, rfl, rfl, rfl⟩ := hc.head
    rw [beq_nat h1]; exact hx
  | .nil, .nil => exact hx
  | .sl i off s sz len cap, .sl i' off' s' sz' len' cap' =>
    obtain ⟨h1, rfl⟩ := bif_some h
    obtain ⟨rfl, rfl, rfl⟩ := hc.head
    have h2 : len = len' := hc _ (by simp)
    have h3 : cap = cap' := hc _ (by simp)
    subst h2 h3
    rw [beq_nat h1]; exact hx
  | .nilsl, .nilsl => exact hx
  | .sq i off s sz len ap, .sq i' off' s' sz' len' ap' =>
    obtain ⟨h1, rfl⟩ := bif_some h
    simp only [Bool.and_eq_true] at h1
    obtain ⟨rfl, rfl, rfl⟩ := hc.head
    obtain rfl : len = len' := hc.tail.head
    have h2 := beq_nat h1.1; subst h2
    obtain ⟨base, room, e, g1, g2, g3, g4⟩ := hx
    have hap := h1.2
    refine ⟨base, room, e, g1, fun hh => ?_, fun hh => ?_, fun hl => ⟨(g4 hl).1, ?_⟩⟩
    · subst hh; cases ap' <;> first | exact g2 rfl | (simp [apLe] at hap)
    · subst hh; cases ap' <;> first | exact g3 rfl | (simp [apLe] at hap)
    · obtain ⟨b, b1, b2, b3⟩ := (g4 hl).2
      refine ⟨b, b1, b2, fun hh => ?_⟩
      subst hh; cases ap' <;> first | exact b3 rfl | (simp [apLe] at hap)
  | .sq i off s sz len ap, .nilsl =>
    simp only [eqV, Option.some.injEq] at h
    subst h
    have h0 : len = 0 := hc.head
    subst h0
    simp only [Rel] at hx; subst hx
    exact ⟨none, 0, rfl, fun _ => rfl, fun _ _ => rfl, fun _ => rfl, fun hh => by omega⟩
  | .sq i off s sz len .no, .sl i' off' s' sz' len' cap' =>
    obtain ⟨h1, rfl⟩ := bif_some h
    obtain ⟨rfl, rfl, rfl⟩ := hc.head
    obtain rfl : len = len' := hc.tail.head
    have h2 := beq_nat h1; subst h2
    obtain ⟨b, o, b1, room, rfl, b2, b3, b4⟩ := hx
    exact ⟨some ⟨b, o, none⟩, room, rfl, fun hh => (by simp at hh), fun hh => (by cases hh), fun hh => (by cases hh), fun hl => ⟨by omega, b, b1, by rw [b4 (by omega)], fun hh => (by cases hh)⟩⟩
  | .mp i, .mp i' =>
    obtain ⟨h1, rfl⟩ := bif_some h
    rw [beq_nat h1]; exact hx
  | .nilmp, .nilmp => exact hx
  | .agg vs, .agg us =>
    obtain ⟨ys, rfl, hy⟩ := hx
    exact ⟨ys, rfl, eqL_less vs us cs h hc β ys hy⟩
  | .tup vs, .tup us =>
    obtain ⟨ys, rfl, hy⟩ := hx
    exact ⟨ys, rfl, eqL_less vs us cs h hc β ys hy⟩
  | .clo fn a c, .clo fn' a' c' =>
    simp only [eqV] at h
    split at h <;> first | exact (none_ne h).elim | skip
    rename_i p q h1 h2
    injection h with h; subst h
    obtain ⟨ys, zs, rfl, hy, hz⟩ := hx
    have hfn : fn = fn' := hc _ (by simp)
    subst hfn
    exact ⟨ys, zs, rfl, eqL_less a a' p h1 (fun r hr => hc r (by simp [hr])) β ys hy, eqL_less c c' q h2 (fun r hr => hc r (by simp [hr])) β zs hz⟩
  | .nilf, .nilf => exact hx
  | .ifc t v, .ifc t' v' =>
    simp only [eqV] at h
    split at h <;> first | exact (none_ne h).elim | skip
    rename_i p h1
    injection h with h; subst h
    obtain ⟨y, rfl, hy⟩ := hx
    have ht : t = t' := hc _ (by simp)
    subst ht
    exact ⟨y, rfl, eqV_less v v' p h1 (fun r hr => hc r (by simp [hr])) β y hy⟩
  | .nilif, .nilif => exact hx
  | .str s, .str s' => injection h with h; subst h; rw [show s = s' from hc.head]; exact hx
theorem eqL_less : ∀ (v u : List SV) (cs : List Prop), eqL v u = some cs → All cs → ∀ (β : Env) (x : List Value), RelL β u x → RelL β v x := by
  intro v u cs h hc β x hx
  match v, u with
  | [], [] => exact hx
  | v :: vs, u :: us =>
    simp only [eqL] at h
    split at h <;> first | exact (none_ne h).elim | skip
    rename_i p q h1 h2
    injection h with h; subst h
    obtain ⟨y, ys, rfl, hy, hys⟩ := hx
    exact ⟨y, ys, rfl, eqV_less v u p h1 hc.left β y hy, eqL_less vs us q h2 hc.right β ys hys⟩
end
end Sx
