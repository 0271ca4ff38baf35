/- A configuration may be forgotten in part, and its blocks may be given other names. No condition. -/
import Derived.Test.YtpjabkjacldgcaaEng19
namespace Sx
open Go

/-- A row under the other names. -/
def renR (nx : Nat) (sg : List Nat) (f : Nat → Nat → SV) : Nat → Nat → SV := fun i k => ren nx sg (f i k)
def renS {α : Type} (nx : Nat) (sg : List Nat) : Slots → (Slots → α) → α
  | [], f => f []
  | (t, v) :: r, f => renF nx sg v fun v => renS nx sg r fun r => f ((t, v) :: r)
def renS' (nx : Nat) (sg : List Nat) : Slots → Slots
  | [] => []
  | (t, v) :: r => (t, ren nx sg v) :: renS' nx sg r
theorem renS_eq {α : Type} (nx : Nat) (sg : List Nat) : ∀ (s : Slots) (f : Slots → α), renS nx sg s f = f (renS' nx sg s)
  | [], f => rfl
  | (t, v) :: r, f => by rw [renS, renF_eq, renS_eq nx sg r]; rfl
theorem renS_look {nx : Nat} {sg : List Nat} {t : Nat} {v : SV} : ∀ {s : Slots}, look t (renS' nx sg s) = some v → ∃ u, look t s = some u ∧ v = ren nx sg u
  | [], h => by cases h
  | (i, x) :: r, h => by
    simp only [renS', look] at h
    simp only [look]
    cases hb : Nat.beq t i with
    | true => rw [hb] at h; injection h with h; exact ⟨x, rfl, h.symm⟩
    | false => rw [hb] at h; exact renS_look h
def renO {α : Type} (nx : Nat) (sg : List Nat) (s : SO) (f : SO → α) : α :=
  match s with
  | .cells vs ty => renFL nx sg vs fun vs => f (.cells vs ty)
  | .row off n cap sz g ty => f (.row off n cap sz (renR nx sg g) ty)
  | .obj o => f (.obj o)
  | .lp st pe fn n sl ps a b D => renS nx sg sl fun sl => f (.lp st pe fn n sl ps a b D)
theorem renO_eq {α : Type} (nx : Nat) (sg : List Nat) (s : SO) (f : SO → α) : renO nx sg s f = f (renO nx sg s id) := by
  cases s <;> simp only [renO, renFL_eq, renS_eq, id]
theorem renO_rel {β : Env} {nx : Nat} {sg : List Nat} {s : SO} {o : Obj} (h : ORel (β.via nx sg) s o) : ORel β (renO nx sg s id) o := by
  cases s with
  | cells vs ty => obtain ⟨us, e, hl⟩ := h; simp only [renO, renFL_eq, id]; exact ⟨us, e, (renL_rel _ _).2 hl⟩
  | row off n cap sz f ty => obtain ⟨c, fz, tt, ht, e, h1, h2, h3⟩ := h; exact ⟨c, fz, tt, ht, e, h1, h2, fun i k hi hk => let ⟨u, hu, hr⟩ := h3 i k hi hk; ⟨u, hu, (ren_rel _ _).2 hr⟩⟩
  | obj o' => exact h
  | lp st pe fn n sl ps a b D =>
    obtain ⟨tmps, e, h1, h2, h3⟩ := h
    simp only [renO, renS_eq, id]
    refine ⟨tmps, e, h1, fun t v hv => ?_, fun t v hv => ?_⟩
    · obtain ⟨u, hu, rfl⟩ := renS_look hv; exact (ren_rel _ _).2 (h2 t u hu)
    · obtain ⟨u, hu, rfl⟩ := renS_look hv; exact h3 t u hu

def slM (nx : Nat) (sg : List Nat) (sl : Slots) : Slots → Option (List Prop)
  | [] => some []
  | (t, v) :: r => match look t sl with
    | some u => match renF nx sg v fun v => eqV v u, slM nx sg sl r with
      | some x, some y => some (x ++ y)
      | _, _ => none
    | none => none
theorem slM_spec {nx : Nat} {sg : List Nat} {sl : Slots} : ∀ {sl' : Slots} {cs : List Prop}, slM nx sg sl sl' = some cs → All cs → ∀ {t : Nat} {v : SV}, look t sl' = some v → ∃ u, look t sl = some u ∧ Less (ren nx sg v) u
  | [], cs, h, hc, t, v, hv => by cases hv
  | (j, s0) :: r, cs, h, hc, t, v, hv => by
    simp only [slM] at h
    split at h <;> first | exact (none_ne h).elim | skip
    rename_i u e1
    split at h <;> first | exact (none_ne h).elim | skip
    rename_i x y e2 e3
    rw [renF_eq] at e2
    injection h with h; subst h
    simp only [look] at hv
    cases hb : Nat.beq t j with
    | true => rw [hb] at hv; have := beq_nat hb; subst this; injection hv with hv; subst hv; exact ⟨u, e1, eqV_less _ _ _ e2 hc.left⟩
    | false => rw [hb] at hv; exact slM_spec e3 hc.right hv
/-- What is owed for a block, under other names, to say no more than another. -/
def eqO (nx : Nat) (sg : List Nat) : SO → SO → Option (List Prop)
  | .cells vs ty, .cells us ty' => bif Nat.beq ty ty' then renFL nx sg vs fun vs => eqL vs us else none
  | .row off n cap sz f ty, .row off' n' cap' sz' g ty' => bif Nat.beq sz sz' && tyLe ty ty' then some [off = off' ∧ n ≤ n' ∧ (n' ≤ cap' → n ≤ cap) ∧ cap ≤ cap', ∀ i k, i < n → k < sz → Less (ren nx sg (f i k)) (g i k)] else none
  | .row off n cap sz f ty, .cells us ty' => bif Nat.beq off 0 && tyLe ty ty' then some [n ≤ cap ∧ cap * sz ≤ us.length, ∀ i k, i < n → k < sz → ∃ u, us[i * sz + k]? = some u ∧ Less (ren nx sg (f i k)) u] else none
  | .obj o, .obj o' => some [o = o']
  | .lp st pe fn n sl ps a b D, .lp st' pe' fn' n' sl' ps' a' b' D' => match slM nx sg sl' sl with
    | some cs => some ((st = st' ∧ pe = pe' ∧ fn = fn' ∧ n = n' ∧ ps = ps' ∧ a = a' ∧ b = b' ∧ D = D') :: cs)
    | none => none
  | _, _ => none
theorem eqO_rel {β : Env} {nx : Nat} {sg : List Nat} {s' s : SO} {cs : List Prop} (h : eqO nx sg s' s = some cs) (hc : All cs) {o : Obj} (hr : ORel β s o) : ORel (β.via nx sg) s' o := by
  unfold eqO at h
  split at h <;> first | exact (none_ne h).elim | skip
  · rename_i vs ty us ty'
    rw [renFL_eq] at h
    cases hb : Nat.beq ty ty' with
    | false => rw [hb] at h; cases h
    | true =>
      rw [hb] at h; simp only [cond_true] at h
      have := beq_nat hb; subst this
      obtain ⟨xs, e, hx⟩ := hr
      exact ⟨xs, e, (renL_rel _ _).1 (eqL_less _ _ _ h hc β xs hx)⟩
  · obtain ⟨h1, rfl⟩ := bif_some h
    simp only [Bool.and_eq_true] at h1
    obtain ⟨h2, h3⟩ := h1
    have h2 := beq_nat h2
    subst h2
    obtain ⟨c, fz, tt, ht, e, g1, g2, g3⟩ := hr
    obtain ⟨k0, k1, k2, k3⟩ := hc.head
    subst k0
    have k4 := hc _ (List.mem_cons_of_mem _ (List.mem_cons_self ..))
    refine ⟨c, fz, tt, tyLe_ok h3 ht, e, k2 g1, Nat.le_trans (Nat.add_le_add_left (Nat.mul_le_mul_right _ k3) _) g2, fun i k hi hk => ?_⟩
    obtain ⟨u, hu, hr⟩ := g3 i k (by omega) hk
    exact ⟨u, hu, (ren_rel _ _).1 (k4 i k hi hk β u hr)⟩
  · obtain ⟨h1, rfl⟩ := bif_some h
    simp only [Bool.and_eq_true] at h1
    obtain ⟨h1, h3⟩ := h1
    have h1 := beq_nat h1
    subst h1
    obtain ⟨xs, e, hx⟩ := hr
    obtain ⟨k1, k2⟩ := hc.head
    have k4 := hc _ (List.mem_cons_of_mem _ (List.mem_cons_self ..))
    have hlen := hx.length
    refine ⟨_, _, _, tyLe_ok h3 (.inr rfl), e, k1, by simp; omega, fun i k hi hk => ?_⟩
    obtain ⟨u, hu, hl⟩ := k4 i k hi hk
    obtain ⟨x, hx1, hx2⟩ := hx.get hu
    exact ⟨x, by simpa using hx1, (ren_rel _ _).1 (hl β x hx2)⟩
  · injection h with h; subst h
    have := hc.head
    subst this; exact hr
  · split at h <;> first | exact (none_ne h).elim | skip
    rename_i cs' e1
    injection h with h; subst h
    obtain ⟨rfl, rfl, rfl, rfl, rfl, rfl, rfl, rfl⟩ := hc.head
    obtain ⟨tmps, e, h1, h2, h3⟩ := hr
    refine ⟨tmps, e, h1, fun t v hv => ?_, fun t v hv => ?_⟩
    · obtain ⟨u, g1, g2⟩ := slM_spec e1 (fun p hp => hc p (List.mem_cons_of_mem _ hp)) hv
      exact (ren_rel _ _).1 (g2 _ _ (h2 t u g1))
    · obtain ⟨u, g1, g2⟩ := slM_spec e1 (fun p hp => hc p (List.mem_cons_of_mem _ hp)) hv
      exact h3 t u g1

/-- A row that need not lie anywhere. -/
def bare : SO → Option (List Prop)
  | .row _ n _ _ _ _ => some [n = 0]
  | _ => none
theorem bare_live {s : SO} {cs : List Prop} (h : bare s = some cs) (hc : All cs) : ¬ s.Live := by
  cases s with
  | row off n cap sz f ty =>
    injection h with h; subst h
    have h0 : n = 0 := hc.head
    show ¬ 0 < n
    omega
  | cells => cases h
  | obj => cases h
  | lp => cases h
theorem eqO_live {nx : Nat} {sg : List Nat} {s' s : SO} {cs : List Prop} (h : eqO nx sg s' s = some cs) (hc : All cs) (hl : s'.Live) : s.Live := by
  unfold eqO at h
  split at h <;> first | exact (none_ne h).elim | skip
  · trivial
  · rename_i off n cap sz f ty off' n' cap' sz' g ty'
    obtain ⟨h1, rfl⟩ := bif_some h
    obtain ⟨k0, k1, k2, k3⟩ := hc.head
    have hl : 0 < n := hl
    show 0 < n'
    omega
  · trivial
  · trivial
  · trivial
def hpM (nx : Nat) (sg : List Nat) (hp : Hp) : Hp → Option (List Prop)
  | [] => some []
  | (i, so) :: r => match hget (sig nx sg i) hp with
    | some s => match eqO nx sg so s, hpM nx sg hp r with
      | some x, some y => some (x ++ y)
      | _, _ => none
    | none => match bare so, hpM nx sg hp r with
      | some x, some y => some (x ++ y)
      | _, _ => none
theorem hpM_spec {nx : Nat} {sg : List Nat} {hp : Hp} : ∀ {hp' : Hp} {cs : List Prop}, hpM nx sg hp hp' = some cs → All cs → ∀ {i : Nat} {so : SO}, hget i hp' = some so → so.Live →
    ∃ s ds, hget (sig nx sg i) hp = some s ∧ eqO nx sg so s = some ds ∧ All ds
  | [], cs, h, hc, i, so, hi, hl => by cases hi
  | (j, s1) :: r, cs, h, hc, i, so, hi, hl => by
    simp only [hpM] at h
    simp only [hget] at hi
    split at h
    · rename_i s e1
      split at h <;> first | exact (none_ne h).elim | skip
      rename_i x y e2 e3
      injection h with h; subst h
      cases hb : Nat.beq i j with
      | true =>
        rw [hb] at hi; have := beq_nat hb; subst this; injection hi with hi; subst hi
        exact ⟨s, x, e1, e2, hc.left⟩
      | false => rw [hb] at hi; exact hpM_spec e3 hc.right hi hl
    · split at h <;> first | exact (none_ne h).elim | skip
      rename_i x y e2 e3
      injection h with h; subst h
      cases hb : Nat.beq i j with
      | true =>
        rw [hb] at hi; have := beq_nat hb; subst this; injection hi with hi; subst hi
        exact absurd hl (bare_live e2 hc.left)
      | false => rw [hb] at hi; exact hpM_spec e3 hc.right hi hl
def hkeys : Hp → List Nat
  | [] => []
  | (i, _) :: r => i :: hkeys r
theorem hkeys_mem {i : Nat} {s : SO} : ∀ {hp : Hp}, hget i hp = some s → i ∈ hkeys hp
  | [], h => by cases h
  | (j, x) :: r, h => by
    simp only [hget] at h
    cases hb : Nat.beq i j with
    | true => have := beq_nat hb; subst this; exact List.mem_cons_self ..
    | false => rw [hb] at h; exact List.mem_cons_of_mem _ (hkeys_mem h)
/-- No two of the keys get one name. -/
def dist (nx : Nat) (sg : List Nat) : List Nat → Bool
  | [] => true
  | i :: r => !hasN (sig nx sg i) (r.map (sig nx sg)) && dist nx sg r
theorem dist_spec {nx : Nat} {sg : List Nat} : ∀ {l : List Nat}, dist nx sg l = true → ∀ {i j : Nat}, i ∈ l → j ∈ l → i ≠ j → sig nx sg i ≠ sig nx sg j
  | [], h, i, j, hi, hj, hne => by cases hi
  | a :: r, h, i, j, hi, hj, hne => by
    simp only [dist, Bool.and_eq_true, Bool.not_eq_true'] at h
    have hn : ∀ x ∈ r, sig nx sg a ≠ sig nx sg x := by
      intro x hx e
      have : hasN (sig nx sg a) (r.map (sig nx sg)) = true := hasN_iff.2 (e ▸ List.mem_map_of_mem hx)
      rw [this] at h; cases h.1
    cases hi with
    | head => cases hj with
      | head => exact absurd rfl hne
      | tail _ hj => exact hn j hj
    | tail _ hi => cases hj with
      | head => exact fun e => hn i hi e.symm
      | tail _ hj => exact dist_spec h.2 hi hj hne
/-- The read-only blocks keep their names. -/
def roM (nx : Nat) (sg : List Nat) : Hp → Option (List Prop)
  | [] => some []
  | (i, s) :: r => bif Nat.beq (sig nx sg i) i then match eqO nx sg s s, roM nx sg r with
      | some x, some y => some (x ++ y)
      | _, _ => none
    else none
theorem roM_spec {nx : Nat} {sg : List Nat} : ∀ {ro : Hp} {cs : List Prop}, roM nx sg ro = some cs → All cs → ∀ {i : Nat} {so : SO}, hget i ro = some so → sig nx sg i = i ∧ ∃ ds, eqO nx sg so so = some ds ∧ All ds
  | [], cs, h, hc, i, so, hi => by cases hi
  | (j, s0) :: r, cs, h, hc, i, so, hi => by
    simp only [roM] at h
    cases hj : Nat.beq (sig nx sg j) j with
    | false => rw [hj] at h; cases h
    | true =>
    rw [hj] at h; simp only [cond_true] at h
    split at h <;> first | exact (none_ne h).elim | skip
    rename_i x y e2 e3
    injection h with h; subst h
    simp only [hget] at hi
    cases hb : Nat.beq i j with
    | true => rw [hb] at hi; have := beq_nat hb; subst this; injection hi with hi; subst hi; exact ⟨beq_nat hj, x, e2, hc.left⟩
    | false => rw [hb] at hi; exact roM_spec e3 hc.right hi
/-- The first np names are kept. -/
def idTo (nx : Nat) (sg : List Nat) : Nat → Bool
  | 0 => true
  | n + 1 => Nat.beq (sig nx sg n) n && idTo nx sg n
theorem idTo_spec {nx : Nat} {sg : List Nat} : ∀ {n : Nat}, idTo nx sg n = true → ∀ i, i < n → sig nx sg i = i
  | 0, _, i, hi => by omega
  | n + 1, h, i, hi => by
    simp only [idTo, Bool.and_eq_true] at h
    by_cases e : i = n
    · subst e; exact beq_nat h.1
    · exact idTo_spec h.2 i (by omega)
theorem sig_ge {nx : Nat} {sg : List Nat} {i : Nat} (h : sg.length ≤ i) : sig nx sg i = nx + (i - sg.length) := by
  unfold sig
  rw [nth_get, List.getElem?_eq_none h]
/-- Names from np on are not pinned. -/
def PinTo (B : Base) (np : Nat) : Prop := ∀ i, np ≤ i → B.pin i = none

theorem Sat.rename {ro : Hp} {B : Base} {np : Nat} (hpin : PinTo B np) {nx : Nat} {sg : List Nat} {hp hp' : Hp} {ds es : List Prop} (h2 : hpM nx sg hp hp' = some ds) (h3 : dist nx sg (hkeys hp') = true) (h4 : roM nx sg ro = some es)
    (h5 : idTo nx sg np = true) (hds : All ds) (hes : All es) {β : Env} {w : World} (hs : Sat β hp ro B nx w) : Sat (β.via nx sg) hp' ro B sg.length w := by
  refine ⟨⟨?_, ?_, ?_, hs.old, hs.os, hs.tape, hs.output, hs.size, ?_⟩, ?_⟩
  · intro i s hi hl
    obtain ⟨s0, cs, e1, e2, e3⟩ := hpM_spec h2 hds hi hl
    obtain ⟨b, o, g1, g2, g3, g4, g5⟩ := hs.own _ _ e1 (eqO_live e2 e3 hl)
    exact ⟨b, o, g1, g2, g3, eqO_rel e2 e3 g4, g5⟩
  · intro i j s t hi hj ls lt hne
    obtain ⟨s0, cs, e1, e2, e3⟩ := hpM_spec h2 hds hi ls
    obtain ⟨s1, cs', e1', e2', e3'⟩ := hpM_spec h2 hds hj lt
    exact hs.apart _ _ _ _ e1 e1' (eqO_live e2 e3 ls) (eqO_live e2' e3' lt) (dist_spec h3 (hkeys_mem hi) (hkeys_mem hj) hne)
  · intro i s hi hl
    obtain ⟨e1, cs, e2, e3⟩ := roM_spec h4 hes hi
    obtain ⟨b, o, g1, g2, g3⟩ := hs.read i s hi hl
    exact ⟨b, o, by show β (sig nx sg i) = _; rw [e1]; exact g1, g2, eqO_rel e2 e3 g3⟩
  · have hid : ∀ i b, B.pin i = some b → sig nx sg i = i := fun i b hi => by
      have hlt : i < np := by
        rcases Nat.lt_or_ge i np with g | g
        · exact g
        · rw [hpin i g] at hi; cases hi
      exact idTo_spec h5 i hlt
    refine ⟨fun i b hi => ?_, fun i b hi => ?_⟩
    · show β (sig nx sg i) = _
      rw [hid i b hi]; exact hs.pin i b hi
    · show β.room (sig nx sg i) = _
      rw [hid i b hi]; exact hs.pin.r i b hi
  · intro i hi
    show β (sig nx sg i) = none
    rw [sig_ge hi]; exact hs.fresh _ (by omega)

section
variable {P : Program} {ro : Hp} {B : Base} {f : FuncId} {R : Ending → World → Prop}
/-- The run from a configuration that says less, under other names: what is to be shown of it is enough. -/
theorem run_weak {np : Nat} (hpin : PinTo B np) (sg : List Nat) {fn : FId} {n : Nat} {sl sl' : Slots} {td : List SI} {hp hp' : Hp} {nx nx' : Nat} {cs ds es : List Prop} (hl : sg.length = nx')
    (h1 : slM nx sg sl sl' = some cs) (h2 : hpM nx sg hp hp' = some ds) (h3 : dist nx sg (hkeys hp') = true) (h4 : roM nx sg ro = some es) (h5 : idTo nx sg np = true) (hcs : conj cs) (hds : conj ds) (hes : conj es)
    (h : Run P ro B f R ⟨⟨fn, n, sl', td⟩, [], hp', nx'⟩) : Run P ro B f R ⟨⟨fn, n, sl, td⟩, [], hp, nx⟩ := by
  subst hl
  intro β w fr frs cs' hf hfs hs
  cases hfs
  refine h (β.via nx sg) w fr [] cs' ⟨hf.fn, hf.size, ?_, ?_, hf.todo, hf.ok, hf.defers, hf.mode, hf.kind, hf.rnd⟩ .nil (Sat.rename hpin h2 h3 h4 h5 (all_conj hds) (all_conj hes) hs)
  · intro t v hv
    obtain ⟨u, e1, e2⟩ := slM_spec h1 (all_conj hcs) hv
    exact (ren_rel _ _).1 (e2 _ _ (hf.slot t u e1))
  · intro t v hv
    obtain ⟨u, e1, e2⟩ := slM_spec h1 (all_conj hcs) hv
    exact hf.lt t u e1
end
end Sx
