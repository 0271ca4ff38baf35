/- What a call does to the blocks that it is handed, told once and used at every call. No condition. -/
import Derived.Test.YtpjabkjacldgcaaEng20
namespace Sx
open Go

/-- One end of a call: what it gives, the blocks it hands back, how many names it has used. -/
structure Out where
  r : SV
  hp : Hp
  nx : Nat

section
variable {ι : Type}
def HEnd (β : Env) (B : Base) (ro : Hp) (ψ : ι → Prop) (out : ι → Out) (e : Ending) (w' : World) : Prop :=
  ∃ z β' u, ψ z ∧ β.le β' ∧ e = .returned u ∧ Rel β' (out z).r u ∧ Sat β' (out z).hp ro B (out z).nx w'
/-- Called with xs, over the blocks hp (its own to change) and ro (to read), the function comes to one of the ends. -/
def HC (P : Program) (f : FuncId) (xs : List SV) (hp ro : Hp) (nx : Nat) (ψ : ι → Prop) (out : ι → Out) : Prop :=
  ∀ (B : Base) (β : Env) (w : World) (vs : List Value), B.ok → RelL β xs vs → Sat β hp ro B nx w → Calls P f vs.toArray w (HEnd β B ro ψ out)

theorem hc_of_run {P : Program} {f : FuncId} {fn : Func} {c : Code} {xs : List SV} {hp ro : Hp} {nx : Nat} {ψ : ι → Prop} {out : ι → Out} (hfn : P.funcs[f]? = some fn) (hb : fn.body = some c)
    (h : ∀ B : Base, B.ok → PinTo B nx → Run P ro B f (HEnd B.pin B ro ψ out) ⟨⟨fid f, xs.length + (fn.ntmps - xs.length), enumFrom 0 xs, [.code c]⟩, [], hp, nx⟩) : HC P f xs hp ro nx ψ out := by
  intro B β w vs hB hl hs
  have hs1 : Sat β hp ro ⟨B.D, B.w, β⟩ nx w := ⟨⟨hs.own, hs.apart, hs.read, hs.old, hs.os, hs.tape, hs.output, hs.size, Env.le_refl _⟩, hs.fresh⟩
  refine (calls_of_run hfn hb hl hs1 (h ⟨B.D, B.w, β⟩ hB hs.fresh)).mono ?_
  rintro e w' ⟨z, β', u, h1, h2, h3, h4, h5⟩
  exact ⟨z, β', u, h1, h2, h3, h4, ⟨h5.own, h5.apart, h5.read, h5.old, h5.os, h5.tape, h5.output, h5.size, Env.le_trans hs.pin h2⟩, h5.fresh⟩

section
variable {P : Program} {ro : Hp} {B : Base} {f : FuncId} {ψ : ι → Prop} {out : ι → Out}
theorem hend_of {np : Nat} (hpin : PinTo B np) (z : ι) (hψ : ψ z) (sg : List Nat) {hp : Hp} {nx : Nat} {rs ds es : List Prop} {v : SV} (hl : sg.length = (out z).nx) (hr : renF nx sg (out z).r (fun v' => eqV v' v) = some rs)
    (h2 : hpM nx sg hp (out z).hp = some ds) (h3 : dist nx sg (hkeys (out z).hp) = true) (h4 : roM nx sg ro = some es) (h5 : idTo nx sg np = true) (hrs : conj rs) (hds : conj ds) (hes : conj es)
    (β : Env) (w : World) (u : Value) (hs : Sat β hp ro B nx w) (hu : Rel β v u) : HEnd B.pin B ro ψ out (.returned u) w := by
  have hs' := Sat.rename hpin h2 h3 h4 h5 (all_conj hds) (all_conj hes) hs
  rw [hl] at hs'
  rw [renF_eq] at hr
  exact ⟨z, _, u, hψ, hs'.pin, rfl, (ren_rel _ _).1 (eqV_less _ _ _ hr (all_conj hrs) β u hu), hs'⟩
theorem run_hret {np : Nat} (hpin : PinTo B np) (z : ι) (hψ : ψ z) (sg : List Nat) {n : Nat} {sl : Slots} {td : List SI} {hp : Hp} {nx : Nat} {cs rs ds es : List Prop} {v : SV} (hl : sg.length = (out z).nx) (hv : resV P f sl hp ro = some (cs, v))
    (hr : renF nx sg (out z).r (fun v' => eqV v' v) = some rs)
    (h2 : hpM nx sg hp (out z).hp = some ds) (h3 : dist nx sg (hkeys (out z).hp) = true) (h4 : roM nx sg ro = some es) (h5 : idTo nx sg np = true) (hc : conj cs) (hrs : conj rs) (hds : conj ds) (hes : conj es) :
    Run P ro B f (HEnd B.pin B ro ψ out) ⟨⟨fid f, n, sl, .code .ret :: td⟩, [], hp, nx⟩ :=
  run_ret hv hc (hend_of hpin z hψ sg hl hr h2 h3 h4 h5 hrs hds hes)
theorem run_hend {np : Nat} (hpin : PinTo B np) (z : ι) (hψ : ψ z) (sg : List Nat) {n : Nat} {sl : Slots} {hp : Hp} {nx : Nat} {cs rs ds es : List Prop} {v : SV} (hl : sg.length = (out z).nx) (hv : resV P f sl hp ro = some (cs, v))
    (hr : renF nx sg (out z).r (fun v' => eqV v' v) = some rs)
    (h2 : hpM nx sg hp (out z).hp = some ds) (h3 : dist nx sg (hkeys (out z).hp) = true) (h4 : roM nx sg ro = some es) (h5 : idTo nx sg np = true) (hc : conj cs) (hrs : conj rs) (hds : conj ds) (hes : conj es) :
    Run P ro B f (HEnd B.pin B ro ψ out) ⟨⟨fid f, n, sl, []⟩, [], hp, nx⟩ :=
  run_end hv hc (hend_of hpin z hψ sg hl hr h2 h3 h4 h5 hrs hds hes)
end

/-- The blocks after a call: those handed back, under the caller's names, ahead of those that were not handed in. -/
def renH {α : Type} (nx : Nat) (sg : List Nat) (tl : Hp) : Hp → (Hp → α) → α
  | [], f => f tl
  | (i, s) :: r, f => natF (sig nx sg i) fun j => renO nx sg s fun s => renH nx sg tl r fun r => f ((j, s) :: r)
def callH (nx : Nat) (sg ks : List Nat) (hz hp : Hp) : Option Hp := hdrop ks hp fun b => renH nx sg b hz some
def renH' (nx : Nat) (sg : List Nat) (tl : Hp) : Hp → Hp
  | [] => tl
  | (i, s) :: r => (sig nx sg i, renO nx sg s id) :: renH' nx sg tl r
theorem renH_eq {α : Type} (nx : Nat) (sg : List Nat) (tl : Hp) : ∀ (h : Hp) (f : Hp → α), renH nx sg tl h f = f (renH' nx sg tl h)
  | [], f => rfl
  | (i, s) :: r, f => by
    rw [renH, natF_eq, renO_eq, renH_eq nx sg tl r]; rfl
theorem callH_eq {nx : Nat} {sg ks : List Nat} {hz hp h : Hp} (e : callH nx sg ks hz hp = some h) : h = renH' nx sg (hdrop' ks hp) hz := by
  rw [callH, hdrop_eq, renH_eq] at e; injection e with e; exact e.symm
theorem renH_get {nx : Nat} {sg : List Nat} {tl : Hp} {j : Nat} {s : SO} : ∀ {h : Hp}, hget j (renH' nx sg tl h) = some s →
    (∃ i s0, j = sig nx sg i ∧ i ∈ hkeys h ∧ (i, s0) ∈ h ∧ s = renO nx sg s0 id ∧ ((∀ a b, a ∈ hkeys h → b ∈ hkeys h → sig nx sg a = sig nx sg b → a = b) → hget i h = some s0)) ∨ hget j tl = some s
  | [], h => .inr h
  | (i, s0) :: r, h => by
    simp only [renH', hget] at h
    cases hb : Nat.beq j (sig nx sg i) with
    | true =>
      rw [hb] at h; injection h with h; subst h
      exact .inl ⟨i, s0, beq_nat hb, List.mem_cons_self .., List.mem_cons_self .., rfl, fun _ => by simp [hget]⟩
    | false =>
      rw [hb] at h; simp only [cond_false] at h
      rcases renH_get h with ⟨i', s1, e1, e2, e3, e4, e5⟩ | e
      · refine .inl ⟨i', s1, e1, List.mem_cons_of_mem _ e2, List.mem_cons_of_mem _ e3, e4, fun hinj => ?_⟩
        have hne : i' ≠ i := by rintro rfl; rw [e1] at hb; simp at hb
        simp only [hget, beq_false_of hne, cond_false]
        exact e5 (fun a b ha hb => hinj a b (List.mem_cons_of_mem _ ha) (List.mem_cons_of_mem _ hb))
      · exact .inr e

/-- Blocks to be read lie among one's own or among those to be read. -/
def orM (nx : Nat) (sg : List Nat) (hp ro : Hp) : Hp → Option (List Prop)
  | [] => some []
  | (i, so) :: r => match hgetE (sig nx sg i) hp ro with
    | some s => match eqO nx sg so s, orM nx sg hp ro r with
      | some x, some y => some (x ++ y)
      | _, _ => none
    | none => match bare so, orM nx sg hp ro r with
      | some x, some y => some (x ++ y)
      | _, _ => none
theorem orM_spec {nx : Nat} {sg : List Nat} {hp ro : Hp} : ∀ {hp' : Hp} {cs : List Prop}, orM nx sg hp ro hp' = some cs → All cs → ∀ {i : Nat} {so : SO}, hget i hp' = some so → so.Live →
    ∃ s ds, (hget (sig nx sg i) hp = some s ∨ hget (sig nx sg i) ro = some s) ∧ eqO nx sg so s = some ds ∧ All ds
  | [], cs, h, hc, i, so, hi, hl => by cases hi
  | (j, s0) :: r, cs, h, hc, i, so, hi, hl => by
    simp only [orM] at h
    simp only [hget] at hi
    split at h
    · rename_i s e1
      split at h <;> first | exact (none_ne h).elim | skip
      rename_i x y e2 e3
      injection h with h; subst h
      cases hb : Nat.beq i j with
      | true =>
        rw [hb] at hi; have := beq_nat hb; subst this; injection hi with hi; subst hi
        refine ⟨s, x, ?_, e2, hc.left⟩
        unfold hgetE at e1
        split at e1
        · rename_i g; injection e1 with e1; subst e1; exact .inl g
        · exact .inr e1
      | false => rw [hb] at hi; exact orM_spec e3 hc.right hi hl
    · split at h <;> first | exact (none_ne h).elim | skip
      rename_i x y e2 e3
      injection h with h; subst h
      cases hb : Nat.beq i j with
      | true =>
        rw [hb] at hi; have := beq_nat hb; subst this; injection hi with hi; subst hi
        exact absurd hl (bare_live e2 hc.left)
      | false => rw [hb] at hi; exact orM_spec e3 hc.right hi hl
theorem renO_live {nx : Nat} {sg : List Nat} {s : SO} (h : (renO nx sg s id).Live) : s.Live := by
  cases s with
  | row off n cap sz f ty => exact h
  | cells => trivial
  | obj => trivial
  | lp => trivial
def allLt (nx : Nat) : List Nat → Bool
  | [] => true
  | i :: r => Nat.ble (i + 1) nx && allLt nx r
theorem allLt_spec {nx : Nat} : ∀ {l : List Nat}, allLt nx l = true → ∀ i ∈ l, i < nx
  | [], _, i, hi => by cases hi
  | j :: r, h, i, hi => by
    simp only [allLt, Bool.and_eq_true] at h
    cases hi with
    | head => exact ble_nat h.1
    | tail _ hi => exact allLt_spec h.2 i hi
/-- All names below n are keys. -/
def cover (ks : List Nat) : Nat → Bool
  | 0 => true
  | n + 1 => hasN n ks && cover ks n
theorem cover_spec {ks : List Nat} : ∀ {n : Nat}, cover ks n = true → ∀ i, i < n → i ∈ ks
  | 0, _, i, hi => by omega
  | n + 1, h, i, hi => by
    simp only [cover, Bool.and_eq_true] at h
    by_cases e : i = n
    · subst e; exact hasN_iff.1 h.1
    · exact cover_spec h.2 i (by omega)
theorem sig_lt {nx : Nat} {sg : List Nat} {i : Nat} (h : i < sg.length) : ∃ j, sg[i]? = some j ∧ sig nx sg i = j := by
  refine ⟨sg[i], List.getElem?_eq_getElem h, ?_⟩
  unfold sig
  rw [nth_get, List.getElem?_eq_getElem h]
theorem hkeys_get {i : Nat} : ∀ {hp : Hp}, i ∈ hkeys hp → ∃ s, hget i hp = some s
  | [], h => by cases h
  | (j, s) :: r, h => by
    simp only [hget]
    cases hb : Nat.beq i j with
    | true => exact ⟨s, rfl⟩
    | false =>
      cases h with
      | head => simp at hb
      | tail _ h => exact hkeys_get h

theorem Sat.called {β : Env} {hp ro hpc roc : Hp} {B : Base} {nx : Nat} {w : World} (hs : Sat β hp ro B nx w) (hB : B.ok) {sg : List Nat} {ds es : List Prop}
    (hlt : allLt nx sg = true) (hcov : cover (hkeys hpc ++ hkeys roc) sg.length = true) (h2 : hpM nx sg hp hpc = some ds) (h2' : orM nx sg hp ro roc = some es) (h3 : dist nx sg (hkeys hpc ++ hkeys roc) = true) (hds : All ds) (hes : All es) :
    ∃ B1 : Base, B1.ok ∧ Sat (β.via nx sg) hpc roc B1 sg.length w ∧ ∀ (β2 : Env) (w' : World) (hz : Hp) (nz : Nat), (β.via nx sg).le β2 → Sat β2 hz roc B1 nz w' → sg.length ≤ nz →
      ∃ β'' : Env, β.le β'' ∧ (∀ s v, Rel β2 s v → Rel β'' (ren nx sg s) v) ∧ Sat β'' (renH' nx sg (hdrop' ((hkeys hpc).map (sig nx sg)) hp) hz) ro B (nx + (nz - sg.length)) w' := by
  -- the callee's ground: all that is not handed in
  let foot : Nat → Prop := fun b => ∃ i so s, hget i hpc = some so ∧ hget (sig nx sg i) hp = some s ∧ s.Live ∧ β (sig nx sg i) = some b
  have hD : ∀ (b : Nat), (∃ d : Option Obj, (foot b → d = none) ∧ (¬ foot b → d = w.heap[b]?)) := fun b => by
    by_cases h : foot b
    · exact ⟨none, fun _ => rfl, fun g => absurd h g⟩
    · exact ⟨_, fun g => absurd g h, fun _ => rfl⟩
  have ⟨D, hD⟩ : ∃ D : Nat → Option Obj, ∀ b, (foot b → D b = none) ∧ (¬ foot b → D b = w.heap[b]?) := ⟨fun b => Classical.choose (hD b), fun b => Classical.choose_spec (hD b)⟩
  have hDs : ∀ b o, D b = some o → ¬ foot b ∧ w.heap[b]? = some o := fun b o e => by
    by_cases h : foot b
    · rw [(hD b).1 h] at e; cases e
    · exact ⟨h, by rw [← (hD b).2 h]; exact e⟩
  have hlt' := allLt_spec hlt
  have footD : ∀ b, foot b → B.D b = none := by
    rintro b ⟨i, so, s, _, e1, e2, e3⟩
    obtain ⟨b', o, g1, g2, _⟩ := hs.own _ _ e1 e2
    rw [e3] at g1; injection g1 with g1; subst g1; exact g2
  have hinj : ∀ a b : Nat, sig nx sg a = sig nx sg b → a = b := by
    intro a b e
    rcases Nat.lt_or_ge a sg.length with g | g <;> rcases Nat.lt_or_ge b sg.length with g' | g'
    · by_cases h : a = b
      · exact h
      · exact absurd e (dist_spec h3 (cover_spec hcov a g) (cover_spec hcov b g') h)
    · obtain ⟨j, j1, j2⟩ := sig_lt (nx := nx) g
      have := hlt' _ (List.mem_of_getElem? j1)
      rw [sig_ge g'] at e; omega
    · obtain ⟨j, j1, j2⟩ := sig_lt (nx := nx) g'
      have := hlt' _ (List.mem_of_getElem? j1)
      rw [sig_ge g] at e; omega
    · rw [sig_ge g, sig_ge g'] at e; omega
  have lent : ∀ i so, hget i roc = some so → so.Live → ∃ b o, β (sig nx sg i) = some b ∧ w.heap[b]? = some o ∧ ¬ foot b ∧ ORel (β.via nx sg) so o := by
    intro i so hi hl
    obtain ⟨s, cs, e1, e2, e3⟩ := orM_spec h2' hes hi hl
    have hsl := eqO_live e2 e3 hl
    rcases e1 with e1 | e1
    · obtain ⟨b, o, g1, g2, g3, g4, g5⟩ := hs.own _ _ e1 hsl
      refine ⟨b, o, g1, g3, ?_, eqO_rel e2 e3 g4⟩
      rintro ⟨j, so', s', j0, j1, j2, j3⟩
      by_cases hij : sig nx sg i = sig nx sg j
      · have := hinj i j hij
        subst this
        -- one key on both sides: the list's keys are told apart by their place
        have : ∀ (a b : List Nat), dist nx sg (a ++ b) = true → ∀ x, x ∈ a → x ∈ b → False := by
          intro a b
          induction a with
          | nil => intro _ x hx; cases hx
          | cons y a ih =>
            intro hd x hx hxb
            simp only [List.cons_append, dist, Bool.and_eq_true, Bool.not_eq_true'] at hd
            cases hx with
            | head =>
              have : hasN (sig nx sg y) ((a ++ b).map (sig nx sg)) = true := hasN_iff.2 (List.mem_map_of_mem (List.mem_append_right _ hxb))
              rw [this] at hd; cases hd.1
            | tail _ hx => exact ih hd.2 x hx hxb
        exact this _ _ h3 i (hkeys_mem j0) (hkeys_mem hi)
      · exact hs.apart _ _ _ _ e1 j1 hsl j2 hij (g1.trans j3.symm)
    · obtain ⟨b, o, g1, g2, g3⟩ := hs.read _ _ e1 hsl
      refine ⟨b, o, g1, hs.old b o g2, ?_, eqO_rel e2 e3 g3⟩
      intro hf
      rw [footD b hf] at g2; cases g2
  refine ⟨⟨D, w, Env.nil⟩, fun b o e => (Array.getElem?_eq_some_iff.1 (hDs b o e).2).1, ?_, ?_⟩
  · refine ⟨⟨?_, ?_, ?_, fun b o e => (hDs b o e).2, rfl, rfl, rfl, Nat.le_refl _, Env.nil_le _⟩, ?_⟩
    · intro i s hi hl
      obtain ⟨s0, cs, e1, e2, e3⟩ := hpM_spec h2 hds hi hl
      have hsl := eqO_live e2 e3 hl
      obtain ⟨b, o, g1, g2, g3, g4, g5⟩ := hs.own _ _ e1 hsl
      exact ⟨b, o, g1, (hD b).1 ⟨i, s, s0, hi, e1, hsl, g1⟩, g3, eqO_rel e2 e3 g4, g5⟩
    · intro i j s t hi hj ls lt hne
      obtain ⟨s0, cs, e1, e2, e3⟩ := hpM_spec h2 hds hi ls
      obtain ⟨s1, cs', e1', e2', e3'⟩ := hpM_spec h2 hds hj lt
      exact hs.apart _ _ _ _ e1 e1' (eqO_live e2 e3 ls) (eqO_live e2' e3' lt) (fun e => hne (hinj _ _ e))
    · intro i s hi hl
      obtain ⟨b, o, g1, g2, g3, g4⟩ := lent i s hi hl
      exact ⟨b, o, g1, by show D b = _; rw [(hD b).2 g3]; exact g2, g4⟩
    · intro i hi
      show β (sig nx sg i) = none
      rw [sig_ge hi]; exact hs.fresh _ (by omega)
  · intro β2 w' hz nz hle hs2 hnz
    have hE : ∀ j, ∃ x : Option Nat × Nat, (∀ i, sig nx sg i = j → x = (β2 i, β2.room i)) ∧ ((∀ i, sig nx sg i ≠ j) → x = (β j, β.room j)) := by
      intro j
      by_cases h : ∃ i, sig nx sg i = j
      · obtain ⟨i, rfl⟩ := h
        exact ⟨(β2 i, β2.room i), fun i' e => by rw [hinj _ _ e], fun g => absurd rfl (g i)⟩
      · exact ⟨(β j, β.room j), fun i e => absurd ⟨i, e⟩ h, fun _ => rfl⟩
    obtain ⟨x, hx⟩ : ∃ x : Nat → Option Nat × Nat, ∀ j, (∀ i, sig nx sg i = j → x j = (β2 i, β2.room i)) ∧ ((∀ i, sig nx sg i ≠ j) → x j = (β j, β.room j)) := ⟨fun j => Classical.choose (hE j), fun j => Classical.choose_spec (hE j)⟩
    obtain ⟨β'', hβ⟩ : ∃ β'' : Env, β'' = ⟨fun j => (x j).1, fun j => (x j).2⟩ := ⟨_, rfl⟩
    have hat : ∀ i, β'' (sig nx sg i) = β2 i := fun i => by rw [hβ]; show (x _).1 = _; rw [(hx _).1 i rfl]
    have hroom : ∀ i, β''.room (sig nx sg i) = β2.room i := fun i => by rw [hβ]; show (x _).2 = _; rw [(hx _).1 i rfl]
    have hvia : β''.via nx sg = β2 := by
      have e1 : (β''.via nx sg).f = β2.f := funext hat
      have e2 : (β''.via nx sg).room = β2.room := funext hroom
      cases β2; cases hh : β''.via nx sg
      rw [hh] at e1 e2
      simp only at e1 e2
      rw [e1, e2]
    have hle' : β.le β'' := by
      have key : ∀ j b, β j = some b → β'' j = some b ∧ β''.room j = β.room j := by
        intro j b hj
        by_cases h : ∃ i, sig nx sg i = j
        · obtain ⟨i, rfl⟩ := h
          have hv : (β.via nx sg) i = some b := hj
          exact ⟨(hat i).trans (hle i b hv), (hroom i).trans (hle.r i b hv)⟩
        · have := (hx j).2 (fun i e => h ⟨i, e⟩)
          rw [hβ]
          refine ⟨?_, ?_⟩
          · show (x j).1 = _; rw [this]; exact hj
          · show (x j).2 = _; rw [this]
      exact ⟨fun j b h => (key j b h).1, fun j b h => (key j b h).2⟩
    refine ⟨β'', ?_⟩
    have hrel : ∀ s v, Rel β2 s v → Rel β'' (ren nx sg s) v := fun s v h => (ren_rel s v).2 (by rw [hvia]; exact h)
    have horel : ∀ s o, ORel β2 s o → ORel β'' (renO nx sg s id) o := fun s o h => renO_rel (by rw [hvia]; exact h)
    -- the blocks of the caller's that were not handed in
    have kept : ∀ j s, hget j (hdrop' ((hkeys hpc).map (sig nx sg)) hp) = some s → s.Live → ∃ b o, β j = some b ∧ B.D b = none ∧ D b = some o ∧ w'.heap[b]? = some o ∧ ORel β s o ∧ Fit (β.room j) o ∧ hget j hp = some s := by
      intro j s hj hl
      rw [hdrop_get] at hj
      split at hj
      · cases hj
      rename_i hnk
      obtain ⟨b, o, g1, g2, g3, g4, g5⟩ := hs.own _ _ hj hl
      have hnf : ¬ foot b := by
        rintro ⟨i, so, s', i0, i1, i2, i3⟩
        refine hs.apart _ _ _ _ hj i1 hl i2 ?_ (g1.trans i3.symm)
        intro e; exact hnk (e ▸ List.mem_map_of_mem (hkeys_mem i0))
      have hDb : D b = some o := by rw [(hD b).2 hnf]; exact g3
      exact ⟨b, o, g1, g2, hDb, hs2.old b o hDb, g4, g5, hj⟩
    -- what the callee hands back
    have back : ∀ j s, s.Live → (∃ i s0, j = sig nx sg i ∧ i ∈ hkeys hz ∧ (i, s0) ∈ hz ∧ s = renO nx sg s0 id ∧ ((∀ a b, a ∈ hkeys hz → b ∈ hkeys hz → sig nx sg a = sig nx sg b → a = b) → hget i hz = some s0)) →
        ∃ i s0 b o, j = sig nx sg i ∧ hget i hz = some s0 ∧ s0.Live ∧ β2 i = some b ∧ D b = none ∧ B.D b = none ∧ w'.heap[b]? = some o ∧ ORel β2 s0 o ∧ Fit (β2.room i) o ∧ s = renO nx sg s0 id := by
      rintro j s hl ⟨i, s0, e1, _, _, e4, e5⟩
      have e5 := e5 (fun a b _ _ e => hinj a b e)
      have hl0 : s0.Live := renO_live (e4 ▸ hl)
      obtain ⟨b, o, g1, g2, g3, g4, g5⟩ := hs2.own _ _ e5 hl0
      refine ⟨i, s0, b, o, e1, e5, hl0, g1, g2, ?_, g3, g4, g5, e4⟩
      cases hb : B.D b with
      | none => rfl
      | some o' =>
        exfalso
        have hw := hs.old b o' hb
        by_cases hf : foot b
        · rw [footD b hf] at hb; cases hb
        · have := (hD b).2 hf
          have g2 : D b = none := g2
          rw [g2, hw] at this; cases this
    refine ⟨hle', hrel, ⟨?_, ?_, ?_, ?_, ?_, ?_, ?_, ?_, ?_⟩, ?_⟩
    · intro j s hj hl
      rcases renH_get hj with h | h
      · obtain ⟨i, s0, b, o, e1, e2, _, g1, g2, g3, g4, g5, g6, rfl⟩ := back j s hl h
        exact ⟨b, o, by rw [e1]; exact (hat i).trans g1, g3, g4, horel _ _ g5, by rw [e1, hroom]; exact g6⟩
      · obtain ⟨b, o, g1, g2, _, g4, g5, g6, _⟩ := kept j s h hl
        exact ⟨b, o, hle' _ _ g1, g2, g4, ORel.mono hle' _ _ g5, by rw [hle'.r _ _ g1]; exact g6⟩
    · intro j k s t hj hk ls lt hne
      have mix : ∀ j k s t, s.Live → t.Live → (∃ i s0, j = sig nx sg i ∧ i ∈ hkeys hz ∧ (i, s0) ∈ hz ∧ s = renO nx sg s0 id ∧ ((∀ a b, a ∈ hkeys hz → b ∈ hkeys hz → sig nx sg a = sig nx sg b → a = b) → hget i hz = some s0)) →
          hget k (hdrop' ((hkeys hpc).map (sig nx sg)) hp) = some t → β'' j ≠ β'' k := by
        intro j k s t ls lt h h'
        obtain ⟨i, s0, b, o, e1, e2, _, g1, g2, _⟩ := back j s ls h
        obtain ⟨b', o', g1', _, g3', _⟩ := kept k t h' lt
        rw [e1, hat, g1, hle' _ _ g1']
        intro e; injection e with e; subst e; rw [g2] at g3'; cases g3'
      rcases renH_get hj with h | h <;> rcases renH_get hk with h' | h'
      · obtain ⟨i, s0, b, o, e1, e2, l1, g1, g2, g3, g4, g5, g6, rfl⟩ := back j s ls h
        obtain ⟨i', s0', b', o', e1', e2', l2, g1', g2', _⟩ := back k t lt h'
        rw [e1, e1', hat, hat]
        exact hs2.apart _ _ _ _ e2 e2' l1 l2 (fun e => hne (by rw [e1, e1', e]))
      · exact mix j k s t ls lt h h'
      · exact Ne.symm (mix k j t s lt ls h' h)
      · obtain ⟨b, o, g1, _, _, _, _, _, g7⟩ := kept j s h ls
        obtain ⟨b', o', g1', _, _, _, _, _, g7'⟩ := kept k t h' lt
        rw [hle' _ _ g1, hle' _ _ g1', ← g1, ← g1']
        exact hs.apart _ _ _ _ g7 g7' ls lt hne
    · intro i s hi hl
      obtain ⟨b, o, g1, g2, g3⟩ := hs.read i s hi hl
      exact ⟨b, o, hle' _ _ g1, g2, ORel.mono hle' _ _ g3⟩
    · intro b o hb
      refine hs2.old b o ?_
      show D b = some o
      rw [(hD b).2 ?_]
      · exact hs.old b o hb
      · intro hf
        rw [footD b hf] at hb; cases hb
    · exact hs2.os.trans hs.os
    · exact hs2.tape.trans hs.tape
    · exact hs2.output.trans hs.output
    · exact Nat.le_trans hs.size hs2.size
    · exact Env.le_trans hs.pin hle'
    · intro i hi
      have : sig nx sg (sg.length + (i - nx)) = i := by rw [sig_ge (by omega)]; omega
      rw [← this, hat]
      exact hs2.fresh _ (by omega)
end
end Sx
