/- The symbolic machine, part 4: what its steps give, proved against the model. Conditions: as each theorem says. -/
import Derived.Test.YtaeelabbppjobaaEngX3
set_option linter.unusedSimpArgs false
set_option linter.unusedVariables false
section
namespace Sx
open Go

/-- Calls that make one block: what they give, and the block, under the name 0. -/
abbrev Mk := Nat → List SV → Option (SV × SO)
def MkOk (P : Program) (mk : Mk) : Prop := ∀ f xs v so, mk f xs = some (v, so) → closedL xs = true ∧ so.Live ∧ HC P f xs [] [] 0 (fun _ : Unit => True) fun _ => ⟨v, [(0, so)], 1⟩
/-- An insertion's key and value, kept in its record. -/
def insOf (d : DR) : Option (Int × SV) :=
  match d.v with
  | .tup [.und, .int _ n, v] => some (n, v)
  | _ => none
def insM (P : Program) (ops : Array Oper) (q : IntKind) (μ : Nat) (o : Oper) (sl : Slots) (t : TypeId) (m k x : Operand) : Option (List Prop × DR) :=
  match o.dst, thin (opSlots ops o) sl with
  | none, some slv => match mputOp P slv t m k x with
    | some (cs, i, q', n, v) => bif Nat.beq i μ && keq q q' then v.force fun v => some (cs, ⟨opSlots ops o, none, [], none, [], .tup [.und, .int q n, v]⟩) else none
    | none => none
  | _, _ => none
def mkM (P : Program) (ops : Array Oper) (mk : Mk) (idn : Nat) (o : Oper) (sl : Slots) : Option (List Prop × DR) :=
  match thin (opSlots ops o) sl with
  | some slv => match callee P slv o.op with
    | some (cs, f, _, _, xs) => match mk f xs with
      | some (v, so) => renF idn [idn] v fun v => renO idn [idn] so fun so => some (cs, ⟨opSlots ops o, o.dst, [], some (idn, so), [], v⟩)
      | none => none
    | none => none
  | none => none
def othM (P : Program) (M : Mode) (ro : Hp) (ops : Array Oper) (mk : Mk) (idn : Nat) (o : Oper) (sl : Slots) (hp : Hp) : Option (List Prop × DR) :=
  match dop P M ro ops idn o sl hp with
  | some (cs, d) => match insOf d with
    | none => some (cs, d)
    | some _ => none
  | none => match mkM P ops mk idn o sl with
    | some (cs, d) => match insOf d with
      | none => some (cs, d)
      | some _ => none
    | none => none
def dopM (P : Program) (M : Mode) (ro : Hp) (ops : Array Oper) (mk : Mk) (q : IntKind) (μ : Nat) (idn : Nat) (o : Oper) (sl : Slots) (hp : Hp) : Option (List Prop × DR) :=
  match o.guard with
  | some _ => none
  | none => match o.op with
    | .makeMap _ none => bif Nat.beq idn μ then some ([], ⟨[], o.dst, [], none, [], .mp μ⟩) else none
    | .insert t m k x => insM P ops q μ o sl t m k x
    | _ => othM P M ro ops mk idn o sl hp

/-- A block, in the text's order. -/
def dblkG (F : Nat → Oper → Slots → Hp → Option (List Prop × DR)) (n : Nat) : List Oper → (idn : Nat) → Slots → Hp → List Prop → Option (List Prop × Slots × Hp × List DR)
  | [], _, sl, hp, acc => some (acc, sl, hp, [])
  | o :: r, idn, sl, hp, acc => match F idn o sl hp with
    | none => none
    | some (cs, d) => match put o.dst d.v n sl with
      | none => none
      | some sl' => match hmod d hp with
        | none => none
        | some hp' => match pushAll cs acc with
          | [] => match natF (idn + 1) fun idn' => dblkG F n r idn' sl' hp' [] with
            | some (ds, sl2, hp2, l) => some (ds, sl2, hp2, d :: l)
            | none => none
          | p :: ps => match natF (idn + 1) fun idn' => dblkG F n r idn' sl' hp' (p :: ps) with
            | some (ds, sl2, hp2, l) => some (ds, sl2, hp2, d :: l)
            | none => none
theorem dblkG_chain {F : Nat → Oper → Slots → Hp → Option (List Prop × DR)} (hF : ∀ idn o sl hp cs d, F idn o sl hp = some (cs, d) → d.dst = o.dst) {ops : Array Oper} {n : Nat} : ∀ {os : List Oper} {idn m : Nat} {sl sl' : Slots} {hp hp' : Hp} {acc cs : List Prop} {l : List DR},
    dblkG F n os idn sl hp acc = some (cs, sl', hp', l) → All cs → (∀ i, i < os.length → ops[m + i]? = os[i]?) →
    (∀ p ∈ acc, p ∈ cs) ∧ ∃ (Sl : Nat → Slots) (Hs : Nat → Hp) (dr : Nat → DR), Sl 0 = sl ∧ Hs 0 = hp ∧ Sl os.length = sl' ∧ Hs os.length = hp' ∧
      Chain (fun idn o sl hp cs d => F idn o sl hp = some (cs, d)) ops n idn m os.length Sl Hs dr ∧ (∀ j, j < os.length → l[j]? = some (dr j)) ∧ l.length = os.length
  | [], idn, m, sl, sl', hp, hp', acc, cs, l, h, hc, ho => by
    simp only [dblkG, Option.some.injEq, Prod.mk.injEq] at h
    obtain ⟨rfl, rfl, rfl, rfl⟩ := h
    exact ⟨fun _ h => h, fun _ => sl, fun _ => hp, fun _ => ⟨[], none, [], none, [], .und⟩, rfl, rfl, rfl, rfl, ⟨fun j hj => by simp at hj⟩, fun j hj => by simp at hj, rfl⟩
  | o :: os, idn, m, sl, sl', hp, hp', acc, cs, l, h, hc, ho => by
    simp only [dblkG, natF_eq] at h
    split at h <;> first | exact (none_ne h).elim | skip
    rename_i cs1 d e1
    split at h <;> first | exact (none_ne h).elim | skip
    rename_i sl1 e2
    split at h <;> first | exact (none_ne h).elim | skip
    rename_i hp1 e3
    have key : ∀ acc', (∀ p, p ∈ cs1 ∨ p ∈ acc → p ∈ acc') → (match dblkG F n os (idn + 1) sl1 hp1 acc' with
        | some (ds, sl2, hp2, l) => some (ds, sl2, hp2, d :: l)
        | none => none) = some (cs, sl', hp', l) → (∀ p ∈ acc, p ∈ cs) ∧ ∃ (Sl : Nat → Slots) (Hs : Nat → Hp) (dr : Nat → DR), Sl 0 = sl ∧ Hs 0 = hp ∧ Sl (o :: os).length = sl' ∧ Hs (o :: os).length = hp' ∧
          Chain (fun idn o sl hp cs d => F idn o sl hp = some (cs, d)) ops n idn m (o :: os).length Sl Hs dr ∧ (∀ j, j < (o :: os).length → l[j]? = some (dr j)) ∧ l.length = (o :: os).length := by
      intro acc' hacc h
      split at h <;> first | exact (none_ne h).elim | skip
      rename_i ds sl2 hp2 l' e4
      simp only [Option.some.injEq, Prod.mk.injEq] at h
      obtain ⟨rfl, rfl, rfl, rfl⟩ := h
      obtain ⟨g0, Sl, Hs, dr, g1, g2, g3, g4, g5, g6, g7⟩ := dblkG_chain hF (m := m + 1) e4 hc (fun i hi => by
        have := ho (i + 1) (by simp; omega)
        rw [show m + 1 + i = m + (i + 1) by omega, this]; simp)
      refine ⟨fun p hp => g0 p (hacc p (.inr hp)), fun k => match k with | 0 => sl | k + 1 => Sl k, fun k => match k with | 0 => hp | k + 1 => Hs k, fun k => match k with | 0 => d | k + 1 => dr k, rfl, rfl, g3, g4, ⟨fun j hj => ?_⟩, fun j hj => ?_, by simp [g7]⟩
      · cases j with
        | zero => exact ⟨o, cs1, by simpa using ho 0 (by simp), fun p hp => hc p (g0 p (hacc p (.inl hp))), ⟨e1, hF _ _ _ _ _ _ e1⟩, by simpa [g1] using e2, by simpa [g2] using e3⟩
        | succ j =>
          obtain ⟨o', cs', k1, k2, k3, k4, k5⟩ := g5.step j (by simpa using hj)
          exact ⟨o', cs', by rw [show m + (j + 1) = m + 1 + j by omega]; exact k1, k2, ⟨by rw [show idn + (j + 1) = idn + 1 + j by omega]; exact k3.1, k3.2⟩, k4, k5⟩
      · cases j with
        | zero => simp
        | succ j => simpa using g6 j (by simpa using hj)
    split at h
    · rename_i e; exact key [] (fun p hp => by have := pushAll_mem (cs := cs1) (acc := acc) hp; rw [e] at this; exact this) h
    · rename_i p ps e; exact key (p :: ps) (fun p hp => by have := pushAll_mem (cs := cs1) (acc := acc) hp; rw [e] at this; exact this) h

theorem dopM_dst {P : Program} {M : Mode} {ro : Hp} {ops : Array Oper} {mk : Mk} {q : IntKind} {μ : Nat} (idn : Nat) (o : Oper) (sl : Slots) (hp : Hp) (cs : List Prop) (d : DR) (h : dopM P M ro ops mk q μ idn o sl hp = some (cs, d)) : d.dst = o.dst := by
  unfold dopM at h
  split at h <;> first | exact (none_ne h).elim | skip
  split at h
  · obtain ⟨_, h⟩ := bif_some h
    simp only [Prod.mk.injEq] at h
    obtain ⟨_, rfl⟩ := h; rfl
  · unfold insM at h
    split at h <;> first | exact (none_ne h).elim | skip
    rename_i e0 _
    split at h <;> first | exact (none_ne h).elim | skip
    obtain ⟨_, h⟩ := bif_some' h
    rw [SV.force_eq] at h
    simp only [Option.some.injEq, Prod.mk.injEq] at h
    obtain ⟨_, rfl⟩ := h
    exact e0.symm
  · unfold othM at h
    split at h
    · rename_i e1
      split at h <;> first | exact (none_ne h).elim | skip
      simp only [Option.some.injEq, Prod.mk.injEq] at h
      obtain ⟨_, rfl⟩ := h
      exact dop_dst e1
    · split at h <;> first | exact (none_ne h).elim | skip
      rename_i e1
      split at h <;> first | exact (none_ne h).elim | skip
      simp only [Option.some.injEq, Prod.mk.injEq] at h
      obtain ⟨_, rfl⟩ := h
      unfold mkM at e1
      split at e1 <;> first | exact (none_ne e1).elim | skip
      split at e1 <;> first | exact (none_ne e1).elim | skip
      split at e1 <;> first | exact (none_ne e1).elim | skip
      rw [renF_eq, renO_eq] at e1
      simp only [Option.some.injEq, Prod.mk.injEq] at e1
      obtain ⟨_, rfl⟩ := e1; rfl

/-- What the map holds at the end. -/
def mapH : List DR → Int → Bool
  | [], _ => false
  | d :: r, a => match insOf d with
    | some (n, _) => ieq a n || mapH r a
    | none => mapH r a
def mapE : List DR → Int → SV
  | [], _ => .und
  | d :: r, a => match insOf d with
    | some (n, v) => bif ieq a n then v else mapE r a
    | none => mapE r a
/-- The same, told by the keys and values alone. -/
def insL : List DR → Option (List (Int × SV))
  | [] => some []
  | d :: r => match insL r with
    | none => none
    | some t => match insOf d with
      | some (n, v) => v.force fun v => some ((n, v) :: t)
      | none => some t
def kH : List (Int × SV) → Int → Bool
  | [], _ => false
  | (n, _) :: r, a => ieq a n || kH r a
def kE : List (Int × SV) → Int → SV
  | [], _ => .und
  | (n, v) :: r, a => bif ieq a n then v else kE r a
theorem insL_spec : ∀ {l : List DR} {L : List (Int × SV)}, insL l = some L → mapH l = kH L ∧ mapE l = kE L
  | [], L, h => by injection h with h; subst h; exact ⟨rfl, rfl⟩
  | d :: r, L, h => by
    simp only [insL] at h
    split at h <;> first | exact (none_ne h).elim | skip
    rename_i t e1
    obtain ⟨h1, h2⟩ := insL_spec e1
    split at h
    · rename_i n v e2
      rw [SV.force_eq] at h
      injection h with h; subst h
      exact ⟨by funext a; simp only [mapH, e2, kH, h1], by funext a; simp only [mapE, e2, kE, h2]⟩
    · rename_i e2
      injection h with h; subst h
      exact ⟨by funext a; simp only [mapH, e2, h1], by funext a; simp only [mapE, e2, h2]⟩
/-- The insertions wait for the map, and their keys differ. -/
def insChk (T : List (List Nat)) (i0 : Nat) : (j : Nat) → List DR → Bool
  | _, [] => true
  | j, d :: r => (match insOf d with
    | some (n, _) => inT T i0 j && !mapH r n
    | none => true) && insChk T i0 (j + 1) r
theorem mapH_iff {l : List DR} {a : Int} : mapH l a = true ↔ ∃ (j : Nat) (d : DR) (v : SV), l[j]? = some d ∧ insOf d = some (a, v) := by
  induction l with
  | nil => simp [mapH]
  | cons d r ih =>
    simp only [mapH]
    constructor
    · intro h
      cases hd : insOf d with
      | none =>
        rw [hd] at h
        obtain ⟨j, d', v, h1, h2⟩ := ih.1 h
        exact ⟨j + 1, d', v, by simpa using h1, h2⟩
      | some p =>
        obtain ⟨n, v⟩ := p
        rw [hd] at h
        simp only [Bool.or_eq_true] at h
        rcases h with h | h
        · have : a = n := by simpa [ieq] using h
          subst this
          exact ⟨0, d, v, rfl, hd⟩
        · obtain ⟨j, d', v, h1, h2⟩ := ih.1 h
          exact ⟨j + 1, d', v, by simpa using h1, h2⟩
    · rintro ⟨j, d', v, h1, h2⟩
      cases j with
      | zero =>
        simp at h1; subst h1
        rw [h2]; simp [ieq]
      | succ j =>
        have := ih.2 ⟨j, d', v, by simpa using h1, h2⟩
        cases hd : insOf d with
        | none => exact this
        | some p => obtain ⟨n, v⟩ := p; simp [this]
theorem insChk_spec {T : List (List Nat)} {i0 : Nat} : ∀ {l : List DR} {j : Nat}, insChk T i0 j l = true → ∀ i d n v, l[i]? = some d → insOf d = some (n, v) → inT T i0 (j + i) = true ∧ mapE l n = v
  | [], j, h, i, d, n, v, hi, hd => by simp at hi
  | e :: r, j, h, i, d, n, v, hi, hd => by
    simp only [insChk, Bool.and_eq_true] at h
    cases i with
    | zero =>
      simp at hi; subst hi
      rw [hd] at h
      simp only [Bool.and_eq_true] at h
      exact ⟨h.1.1, by simp [mapE, hd, ieq]⟩
    | succ i =>
      have hi' : r[i]? = some d := by simpa using hi
      obtain ⟨h1, h2⟩ := insChk_spec h.2 i d n v hi' hd
      refine ⟨by rw [show j + (i + 1) = j + 1 + i by omega]; exact h1, ?_⟩
      cases he : insOf e with
      | none => simp only [mapE, he]; exact h2
      | some p =>
        obtain ⟨n', v'⟩ := p
        have hne : ieq n n' = false := by
          cases hq : ieq n n' with
          | false => rfl
          | true =>
            have : n = n' := by simpa [ieq] using hq
            subst this
            rw [he] at h
            have h5 : mapH r n = false := by simpa using (by simpa using h.1 : _ ∧ _).2
            rw [mapH_iff.2 ⟨i, d, v, hi', hd⟩] at h5; cases h5
        simp only [mapE, he, hne, cond_false]; exact h2

open Classical in
/-- The keys that the operations of X have laid. -/
noncomputable def hX (b : Nat) (dr : Nat → DR) (X : Nat → Prop) (a : Int) : Bool := decide (∃ j v, j < b ∧ X j ∧ insOf (dr j) = some (a, v))
theorem hX_iff {b : Nat} {dr : Nat → DR} {X : Nat → Prop} {a : Int} : hX b dr X a = true ↔ ∃ j v, j < b ∧ X j ∧ insOf (dr j) = some (a, v) := by simp [hX]

section
variable {P : Program} {M : Mode} {ro : Hp} {ops : Array Oper} {T : List (List Nat)} {mk : Mk} {q : IntKind} {μ i0 n nx m b : Nat} {Sl : Nat → Slots} {Hs : Nat → Hp} {dr : Nat → DR} {l : List DR} {B : Base}

/-- The map, once it is made. -/
def MapJ (b i0 μ : Nat) (q : IntKind) (Hs : Nat → Hp) (dr : Nat → DR) (l : List DR) (B : Base) (X : Nat → Prop) (β : Env) (w : World) : Prop :=
  X i0 → ∃ bl es c, β μ = some bl ∧ β.room μ = 0 ∧ B.D bl = none ∧ w.heap[bl]? = some (.map es c) ∧ MRel β q (hX b dr X) (.any (mapE l)) es c ∧
    ∀ t k s, LastH b dr X t k → hget t (Hs k) = some s → s.Live → β t ≠ some bl

/-- An operation that leaves the map alone. -/
theorem mapJ_did {D : DRel} (hch : Chain D ops n nx m b Sl Hs dr) (hin : Indeps T m b dr) {X : Nat → Prop} (hX' : Closed T m b X) {j : Nat} (hj : j < b) (hjX : ¬ X j)
    (hpre : ∀ i, i < b → inT T (m + i) (m + j) = true → X i) {β β' : Env} {tmps : Array Value} {w w' : World} (hI : Inv b nx Sl Hs dr ro B X β tmps w)
    (hd : Did (Hs j) β (dr j) (nx + j) w β' w') (hj0 : j ≠ i0) (hno : insOf (dr j) = none) (hM : MapJ b i0 μ q Hs dr l B X β w) : MapJ b i0 μ q Hs dr l B (fun i => X i ∨ i = j) β' w' := by
  intro hi0
  obtain ⟨bl, es, c, m1, m2, m3, m4, m5, m6⟩ := hM (hi0.resolve_right (Ne.symm hj0))
  obtain ⟨o, cs, c1, c2, c3, c4, c5⟩ := hch.step j hj
  have hfresh : β (nx + j) = none := by
    cases hb : β (nx + j) with
    | none => rfl
    | some bl =>
      rcases hI.F _ bl hb with h | ⟨j', h1, h2⟩
      · omega
      · have : j' = j := by omega
        subst this; exact absurd h1 hjX
  have tch : ∀ t s, t ∈ (dr j).mod → hget t (Hs j) = some s → s.Live → β t ≠ some bl := by
    intro t s h1 h2 h3 h4
    rcases hd.sub t h1 with rfl | h5
    · rw [hfresh] at h4; cases h4
    · obtain ⟨k, k1, k2⟩ := read_heap hch hin hX' hj hjX hpre h5
      exact m6 t k s k1 (by rw [k2]; exact h2) h3 h4
  have hlt : bl < w.heap.size := (Array.getElem?_eq_some_iff.1 m4).1
  refine ⟨bl, es, c, hd.le _ _ m1, by rw [hd.le.r _ _ m1]; exact m2, m3, hd.kept bl _ m4 (fun i s h1 h2 h3 h4 => tch i s h1 h2 h3 h4), ?_, ?_⟩
  · have e : hX b dr (fun i => X i ∨ i = j) = hX b dr X := by
      funext a
      rw [Bool.eq_iff_iff, hX_iff, hX_iff]
      constructor
      · rintro ⟨i, v, g1, g2 | rfl, g3⟩
        · exact ⟨i, v, g1, g2, g3⟩
        · rw [hno] at g3; cases g3
      · rintro ⟨i, v, g1, g2, g3⟩; exact ⟨i, v, g1, .inl g2, g3⟩
    rw [e]; exact m5.mono hd.le
  · intro t k s hL hs hl he
    rcases lastH_after hin hX' hj hjX hL with ⟨h1, rfl⟩ | ⟨h1, h2⟩
    · have hg := hmod_get c5 t
      unfold hmodV at hg
      rw [hs] at hg
      unfold DR.mod at h1
      cases hw : (dr j).wh with
      | none =>
        rw [hw] at h1 hg
        simp only at h1 hg
        rw [if_pos h1] at hg; cases hg
      | some p =>
        obtain ⟨i', so⟩ := p
        rw [hw] at h1 hg
        simp only [List.mem_cons] at h1 hg
        by_cases e : t = i'
        · subst e
          rw [if_pos rfl] at hg; injection hg with hg; subst hg
          obtain ⟨bl', o', q1, q2, q3, q4, q5⟩ := hd.wrote t s hw hl
          rw [he] at q1; injection q1 with q1; subst q1
          rcases q5 with q5 | ⟨t', s', g1, g2, g3, g4⟩
          · omega
          · exact tch t' s' g1 g2 g3 g4
        · rw [if_neg e, if_pos (h1.resolve_left e)] at hg; cases hg
    · obtain ⟨bl', o', q1, q2, q3, q4⟩ := hI.H t k s h2 hs hl
      have := hd.le _ _ q1
      rw [he] at this; injection this with this; subst this
      exact m6 t k s h2 hs hl q1

/-- What the slots that operation j reads hold. -/
theorem rho_view {D : DRel} {dd : List Deferred} (hch : Chain D ops n nx m b Sl Hs dr) (hin : Indeps T m b dr) {X : Nat → Prop} (hX' : Closed T m b X) {j : Nat} (hj : j < b) (hjX : ¬ X j)
    (hpre : ∀ i, i < b → inT T (m + i) (m + j) = true → X i) {β : Env} {tmps : Array Value} {w : World} (hI : Inv b nx Sl Hs dr ro B X β tmps w) {o : Oper} {slv : Slots} (e1 : thin (opSlots ops o) (Sl j) = some slv) (hrs : (dr j).rs = opSlots ops o) :
    Rho β slv (Act.eval ⟨tmps, dd⟩) := by
  refine ⟨fun t v hv => ?_, fun _ => rfl, fun _ => rfl⟩
  rw [thin_get e1 t] at hv
  split at hv
  · rename_i hm
    obtain ⟨kk, k1, k2⟩ := read_slot hch hin hX' hj hjX hpre (t := t) (by rw [hrs]; exact hasN_mem.1 hm)
    exact hI.S t kk v k1 (by rw [k2]; exact hv)
  · cases hv
/-- A call that makes a block. -/
theorem mk_did {D : DRel} {dd : List Deferred} (hP : Named P) (hmk : MkOk P mk) (hch : Chain D ops n nx m b Sl Hs dr) (hin : Indeps T m b dr) {X : Nat → Prop} (hX' : Closed T m b X) {j : Nat} (hj : j < b) (hjX : ¬ X j)
    (hpre : ∀ i, i < b → inT T (m + i) (m + j) = true → X i) {β : Env} {tmps : Array Value} {w : World} (hI : Inv b nx Sl Hs dr ro B X β tmps w)
    {o : Oper} {cs : List Prop} (ho : ops[m + j]? = some o) (hg : o.guard = none) (hc : All cs) (hd : mkM P ops mk (nx + j) o (Sl j) = some (cs, dr j)) (fb : Frame) (k : List Item) (fs : List Frame) (r : List Nat) :
    ∃ (β' : Env) (w' : World) (v : Value), Did (Hs j) β (dr j) (nx + j) w β' w' ∧ Rel β' (dr j).v v ∧
      Steps P (lone (fb.atR ⟨tmps, dd⟩ (.inRegion ops ((m + j) :: r) :: k)) fs w) (lone (fb.atR (Act.put ⟨tmps, dd⟩ (dr j).dst v) (.inRegion ops r :: k)) fs w') := by
  unfold mkM at hd
  split at hd <;> first | exact (none_ne hd).elim | skip
  rename_i slv e1
  split at hd <;> first | exact (none_ne hd).elim | skip
  rename_i cs1 g gf gb xs e2
  split at hd <;> first | exact (none_ne hd).elim | skip
  rename_i v so e3
  rw [renF_eq, renO_eq] at hd
  simp only [Option.some.injEq, Prod.mk.injEq] at hd
  obtain ⟨rfl, hd⟩ := hd
  have hfresh : β (nx + j) = none := by
    cases hb : β (nx + j) with
    | none => rfl
    | some bl =>
      rcases hI.F _ bl hb with h | ⟨j', h1, h2⟩
      · omega
      · have : j' = j := by omega
        subst this; exact absurd h1 hjX
  have hrho := rho_view (dd := dd) hch hin hX' hj hjX hpre hI e1 (by rw [← hd])
  obtain ⟨hfn, hbd, vs, hl, hrun⟩ := callee_run (w := w) hP hrho e2 hc
  obtain ⟨hcl, hlive, hHC⟩ := hmk _ _ _ _ e3
  have hw : Region.wanted o (yielded ops tmps) = true := by simp [Region.wanted, hg]
  have hst := op_enter (P := P) (b := fb) (a := ⟨tmps, dd⟩) (k := k) (cs := fs) (w := w) (ops := ops) (i := m + j) (rest := r) ho hw hrun
  obtain ⟨e, w', fr', ⟨z, β2, u, _, hle2, rfl, hu, hs2⟩, hco, _, hlv⟩ := hHC (Base.all w) Env.nil w vs (Base.all_ok w) (RelL.closed _ _ hcl hl) (sat_all w) (fb.atR ⟨tmps, dd⟩ (.inRegion ops ((m + j) :: r) :: k) :: fs)
  obtain ⟨bl, ob, b1, b2, b3, b4, b5⟩ := hs2.own 0 so rfl hlive
  have hge : w.heap.size ≤ bl := by
    have b2 : w.heap[bl]? = none := b2
    simpa using b2
  have hle : β.le (β.add (nx + j) bl (β2.room 0)) := Env.le_add hfresh
  have hvia : β2.le ((β.add (nx + j) bl (β2.room 0)).via (nx + j) [nx + j]) := by
    have hz : ∀ i c, β2 i = some c → i = 0 := fun i c h => by
      rcases Nat.eq_zero_or_pos i with h0 | h0
      · exact h0
      · rw [hs2.fresh i h0] at h; cases h
    refine ⟨fun i c h => ?_, fun i c h => ?_⟩
    · have := hz i c h; subst this
      rw [b1] at h; injection h with h; subst h
      exact Env.add_same β (nx + j) bl (β2.room 0)
    · have := hz i c h; subst this
      exact Env.add_room β (nx + j) bl (β2.room 0)
  refine ⟨β.add (nx + j) bl (β2.room 0), w', u, ⟨hle, ?_, ?_, ?_, ?_, hs2.os, hs2.tape, hs2.output, hs2.size⟩, ?_, ?_⟩
  · intro i c hb
    by_cases e : i = nx + j
    · exact .inr e
    · rw [Env.add_other _ _ _ e] at hb; exact .inl hb
  · intro i hi
    rw [← hd] at hi
    simp only [DR.mod, List.mem_cons, List.not_mem_nil, or_false] at hi
    exact .inl hi
  · intro i so' e _
    rw [← hd] at e; simp only [Option.some.injEq, Prod.mk.injEq] at e
    obtain ⟨rfl, rfl⟩ := e
    exact ⟨bl, ob, Env.add_same .., b3, renO_rel (ORel.mono hvia _ _ b4), ⟨b5.l, by rw [Env.add_room]; exact b5.s⟩, .inl hge⟩
  · intro c oc he _
    exact hs2.old c oc he
  · rw [← hd]
    exact (ren_rel _ _).2 (Rel.mono hvia _ _ hu)
  · refine (Steps.one hst).trans (Steps.trans hco (.one ?_))
    have hfin : (fb.atR ⟨tmps, dd⟩ (.inRegion ops ((m + j) :: r) :: k)).finish u = fb.atR (Act.put ⟨tmps, dd⟩ (dr j).dst u) (.inRegion ops r :: k) := by rw [Frame.finish_atR, ho, ← hd]; rfl
    rw [← hfin]
    exact step_leave_returned hlv
/-- The map is made. -/
theorem new_did {D : DRel} {dd : List Deferred} (hB : B.ok) (hch : Chain D ops n nx m b Sl Hs dr) (hin : Indeps T m b dr) {X : Nat → Prop} (hX' : Closed T m b X) {j : Nat} (hj : j < b) (hjX : ¬ X j)
    (hpre : ∀ i, i < b → inT T (m + i) (m + j) = true → X i) {β : Env} {tmps : Array Value} {w : World} (hI : Inv b nx Sl Hs dr ro B X β tmps w) (hsz : tmps.size = n)
    (hwait : ∀ i p, i < b → insOf (dr i) = some p → inT T (m + j) (m + i) = true)
    {o : Oper} (ho : ops[m + j]? = some o) (hg : o.guard = none) {t : TypeId} (hop : o.op = .makeMap t none) (hd : (⟨[], o.dst, [], none, [], .mp (nx + j)⟩ : DR) = dr j) (fb : Frame) (k : List Item) (fs : List Frame) (r : List Nat) :
    ∃ (β' : Env) (w' : World) (v : Value), β.le β' ∧ (Inv b nx Sl Hs dr ro B (fun i => X i ∨ i = j) β' (Act.put ⟨tmps, dd⟩ (dr j).dst v).tmps w' ∧ MapJ b j (nx + j) q Hs dr l B (fun i => X i ∨ i = j) β' w') ∧
      Steps P (lone (fb.atR ⟨tmps, dd⟩ (.inRegion ops ((m + j) :: r) :: k)) fs w) (lone (fb.atR (Act.put ⟨tmps, dd⟩ (dr j).dst v) (.inRegion ops r :: k)) fs w') := by
  have hfresh : β (nx + j) = none := by
    cases hb : β (nx + j) with
    | none => rfl
    | some bl =>
      rcases hI.F _ bl hb with h | ⟨j', h1, h2⟩
      · omega
      · have : j' = j := by omega
        subst this; exact absurd h1 hjX
  have hle : β.le (β.add (nx + j) w.heap.size 0) := Env.le_add hfresh
  have hw : Region.wanted o (yielded ops tmps) = true := by simp [Region.wanted, hg]
  have hrun : (execOp (Act.eval ⟨tmps, dd⟩) o).run P w = .ok (.value (.map (some w.heap.size))) (w.alloc (.map #[] 0)) := by simp [execOp, hop, Instr.makeMap, Result.andThen]
  have hdst : (dr j).dst = o.dst := by rw [← hd]
  have hDid : Did (Hs j) β (dr j) (nx + j) w (β.add (nx + j) w.heap.size 0) (w.alloc (.map #[] 0)) := by
    refine ⟨hle, ?_, ?_, ?_, ?_, rfl, rfl, rfl, by simp [World.size_alloc]⟩
    · intro i bl hb
      by_cases e : i = nx + j
      · exact .inr e
      · rw [Env.add_other _ _ _ e] at hb; exact .inl hb
    · intro i hi
      rw [← hd] at hi
      simp [DR.mod] at hi
    · intro i so' e _
      rw [← hd] at e; cases e
    · intro bl o' he _
      rw [RowKit.Below.heap_alloc w _ bl (Array.getElem?_eq_some_iff.1 he).1]; exact he
  have hmod : ∀ t, t ∉ (dr j).mod := fun t ht => by rw [← hd] at ht; simp [DR.mod] at ht
  have hI1 := inv_step (dd := dd) hB hch hin hX' hj hjX hpre hI hsz hDid (v := .map (some w.heap.size)) (by rw [← hd]; exact ⟨w.heap.size, Env.add_same .., rfl⟩)
  refine ⟨β.add (nx + j) w.heap.size 0, w.alloc (.map #[] 0), .map (some w.heap.size), hle, ⟨hI1, fun _ => ?_⟩, ?_⟩
  · refine ⟨w.heap.size, #[], 0, Env.add_same .., Env.add_room .., ?_, by show (w.heap.push _)[w.heap.size]? = _; simp, ⟨MapKept.stamped_empty 0, fun x hx => by simp at hx, fun a ha => ?_⟩, ?_⟩
    · cases hD : B.D w.heap.size with
      | none => rfl
      | some o' => have := hB _ _ hD; have := hI.size; omega
    · exfalso
      obtain ⟨i, v, g1, g2 | rfl, g3⟩ := hX_iff.1 ha
      · exact hjX (hX'.down j i g2 hj (hwait i _ g1 g3))
      · rw [← hd] at g3; simp [insOf] at g3
    · intro t k s hL hs hl he
      rcases lastH_after hin hX' hj hjX hL with ⟨h1, rfl⟩ | ⟨h1, h2⟩
      · exact hmod t h1
      · obtain ⟨bl', o', q1, q2, q3, q4⟩ := hI.H t k s h2 hs hl
        have := hle _ _ q1
        rw [he] at this; injection this with this; subst this
        have := (Array.getElem?_eq_some_iff.1 q3).1
        omega
  · rw [hdst]
    exact .one (op_value ho hw hrun)

/-- An insertion. -/
theorem ins_did {D : DRel} {dd : List Deferred} (hch : Chain D ops n nx m b Sl Hs dr) (hin : Indeps T m b dr) {X : Nat → Prop} (hX' : Closed T m b X) {j : Nat} (hj : j < b) (hjX : ¬ X j)
    (hpre : ∀ i, i < b → inT T (m + i) (m + j) = true → X i) {β : Env} {tmps : Array Value} {w : World} (hI : Inv b nx Sl Hs dr ro B X β tmps w) (hM : MapJ b i0 μ q Hs dr l B X β w)
    (hwait : ∀ i n v, i < b → insOf (dr i) = some (n, v) → inT T (m + i0) (m + i) = true ∧ mapE l n = v) (hi0 : i0 < b) (hj0 : j ≠ i0)
    {o : Oper} {cs : List Prop} (ho : ops[m + j]? = some o) (hg : o.guard = none) (hc : All cs) {t : TypeId} {mm kk x : Operand} (hop : o.op = .insert t mm kk x) (hd : insM P ops q μ o (Sl j) t mm kk x = some (cs, dr j)) (fb : Frame) (k : List Item) (fs : List Frame) (r : List Nat) :
    ∃ (β' : Env) (w' : World) (v : Value), β.le β' ∧ (Inv b nx Sl Hs dr ro B (fun i => X i ∨ i = j) β' (Act.put ⟨tmps, dd⟩ (dr j).dst v).tmps w' ∧ MapJ b i0 μ q Hs dr l B (fun i => X i ∨ i = j) β' w') ∧
      Steps P (lone (fb.atR ⟨tmps, dd⟩ (.inRegion ops ((m + j) :: r) :: k)) fs w) (lone (fb.atR (Act.put ⟨tmps, dd⟩ (dr j).dst v) (.inRegion ops r :: k)) fs w') := by
  unfold insM at hd
  split at hd <;> first | exact (none_ne hd).elim | skip
  rename_i slv e0 e1
  split at hd <;> first | exact (none_ne hd).elim | skip
  rename_i cs1 i q' nk v e2
  have hd' := bif_some' hd
  clear hd
  obtain ⟨hb, hd⟩ := hd'
  rw [Bool.and_eq_true] at hb
  have hb1 := beq_nat hb.1
  have hb2 := keq_eq hb.2
  subst hb1 hb2
  rw [SV.force_eq] at hd
  simp only [Option.some.injEq, Prod.mk.injEq] at hd
  obtain ⟨rfl, hd⟩ := hd
  have hins : insOf (dr j) = some (nk, v) := by rw [← hd]; rfl
  have hdst : (dr j).dst = none := by rw [← hd]
  have hmod : ∀ t, t ∉ (dr j).mod := fun t ht => by rw [← hd] at ht; simp [DR.mod] at ht
  obtain ⟨w1, w2⟩ := hwait j nk v hj hins
  have hXi0 : X i0 := hpre i0 hi0 w1
  obtain ⟨bl, es, c, m1, m2, m3, m4, m5, m6⟩ := hM hXi0
  have hrho := rho_view (dd := dd) hch hin hX' hj hjX hpre hI e1 (by rw [← hd])
  obtain ⟨⟨kt, et, hu, hk⟩, ⟨bl', hβ, em⟩, ek, hv⟩ := mputOp_rel hrho e2 hc
  rw [m1] at hβ; injection hβ with hβ; subst hβ
  have hw : Region.wanted o (yielded ops tmps) = true := by simp [Region.wanted, hg]
  obtain ⟨es', c', g1, g2⟩ := put_run (P := P) (w := w) hu hk m4 m5 (n := nk) (v := v) (h' := hX b dr fun i => X i ∨ i = j) (E' := .any (mapE l)) hv (fun a => by
    rw [Bool.eq_iff_iff, hX_iff]
    simp only [Bool.or_eq_true, hX_iff]
    constructor
    · rintro ⟨i, u, g1, g2 | rfl, g3⟩
      · exact .inr ⟨i, u, g1, g2, g3⟩
      · rw [hins] at g3; injection g3 with g3; injection g3 with g3; exact .inl (by simp [ieq, g3])
    · rintro (h | ⟨i, u, g1, g2, g3⟩)
      · have : a = nk := by simpa [ieq] using h
        subst this
        exact ⟨j, v, hj, .inr rfl, hins⟩
      · exact ⟨i, u, g1, .inl g2, g3⟩) (fun a => by
    by_cases e : a = nk
    · subst e; rw [if_pos rfl]; exact w2
    · rw [if_neg e])
  have hlt : bl < w.heap.size := (Array.getElem?_eq_some_iff.1 m4).1
  have hLS : ∀ t k, LastS b dr (fun i => X i ∨ i = j) t k → LastS b dr X t k := fun t k hL => by
    rcases lastS_after hin hX' hj hjX hL with ⟨h1, _⟩ | ⟨_, h2⟩
    · rw [hdst] at h1; cases h1
    · exact h2
  have hLH : ∀ t k, LastH b dr (fun i => X i ∨ i = j) t k → LastH b dr X t k := fun t k hL => by
    rcases lastH_after hin hX' hj hjX hL with ⟨h1, _⟩ | ⟨_, h2⟩
    · exact absurd h1 (hmod t)
    · exact h2
  have hoth : ∀ bl', bl' ≠ bl → (w.heap.setIfInBounds bl (.map es' c'))[bl']? = w.heap[bl']? := fun bl' h => by simp [Ne.symm h]
  refine ⟨β, { w with heap := w.heap.setIfInBounds bl (.map es' c') }, undef, Env.le_refl _, ⟨⟨?_, ?_, ?_, ?_, hI.read, ?_, hI.os, hI.tape, hI.output, by simpa using hI.size, hI.pin⟩, fun _ => ?_⟩, ?_⟩
  · intro t k v hL hl
    rw [hdst]
    exact hI.S t k v (hLS t k hL) hl
  · intro t k s hL hs hl
    obtain ⟨bt, ot, q1, q2, q3, q4, q5⟩ := hI.H t k s (hLH t k hL) hs hl
    refine ⟨bt, ot, q1, q2, ?_, q4, q5⟩
    rw [hoth bt (fun e => m6 t k s (hLH t k hL) hs hl (by rw [q1, e]))]; exact q3
  · intro t k s t' k' s' hL hl hL' hl' ls ls' hne
    exact hI.A t k s t' k' s' (hLH t k hL) hl (hLH t' k' hL') hl' ls ls' hne
  · intro i bl' hb
    rcases hI.F i bl' hb with h | ⟨j', g1, g2⟩
    · exact .inl h
    · exact .inr ⟨j', .inl g1, g2⟩
  · intro bl' o' hD
    show (w.heap.setIfInBounds bl (.map es' c'))[bl']? = some o'
    rw [hoth bl' (fun e => by subst e; rw [m3] at hD; cases hD)]; exact hI.old bl' o' hD
  · exact ⟨bl, es', c', m1, m2, m3, by simp [hlt], g2, fun t k s hL hs hl => m6 t k s (hLH t k hL) hs hl⟩
  · rw [hdst]
    refine .one ?_
    have := op_unit (P := P) (b := fb) (a := ⟨tmps, dd⟩) (k := k) (cs := fs) (ops := ops) (i := m + j) (rest := r) (w := w) (w' := { w with heap := w.heap.setIfInBounds bl (.map es' c') }) ho hw (by
      simp only [execOp, hop, Sem.run_bind, em, ek, g1]; rfl)
    rw [e0] at this
    exact this

variable {f : FuncId} {R : Ending → World → Prop}
def isMk : Option Oper → Bool
  | some o => match o.op with
    | .makeMap _ none => true
    | _ => false
  | none => false
/-- A region's block that fills a map: the whole of it, in whatever order. -/
theorem run_drawM (b : Nat) (hP : Named P) (hB : B.ok) (hM : SumOk P M.sum) (hmk : MkOk P mk) {fn : FId} {n : Nat} {sl sl' : Slots} {ops : Array Oper} {m t : Nat} {k : List SI} {rest : List SFr} {hp hp' : Hp} {nx : Nat} {T : List (List Nat)} {cs : List Prop} {l : List DR} {L : List (Int × SV)} (q : IntKind) (i0 : Nat)
    (hT : closeGo [] ops.toList = some T) (hb : dblkG (dopM P M ro ops mk q (nx + i0)) n ((ops.toList.drop m).take b) nx sl hp [] = some (cs, sl', hp', l)) (hle : Nat.ble (m + b) ops.size = true) (hi : indepAll T m l = true)
    (hbar : barAll T m b (m + b) (ops.size - (m + b)) = true) (hc : conj cs) (hk : insChk T (m + i0) m l = true) (hmk0 : isMk ops[m + i0]? = true) (h0 : Nat.blt i0 b = true) (hL : insL l = some L)
    (h : ∀ t, Run P ro B f R ⟨⟨fn, n, sl', .reg ops (m + b) [] (some (goF ops (m + b) t)) :: k⟩, rest, (nx + i0, .map q (kH L) (.any (kE L))) :: hp', nx + b⟩) : Run P ro B f R ⟨⟨fn, n, sl, .reg ops m [] (some (goF ops m t)) :: k⟩, rest, hp, nx⟩ := by
  rw [← (insL_spec hL).1, ← (insL_spec hL).2] at h
  have hle' := ble_nat hle
  have h0 : i0 < b := by simpa [Nat.blt_eq] using h0
  have hlen : ((ops.toList.drop m).take b).length = b := by simp; omega
  obtain ⟨_, Sl, Hs, dr, c1, c2, c3, c4, hch, c5, c6⟩ := dblkG_chain (dopM_dst (P := P) (M := M) (ro := ro) (ops := ops) (mk := mk) (q := q) (μ := nx + i0)) (ops := ops) (m := m) hb (all_conj hc) (fun i hi => by
    rw [hlen] at hi
    rw [List.getElem?_take, if_pos hi, List.getElem?_drop]; simp)
  rw [hlen] at c3 c4 hch c5 c6
  have hin : Indeps T m b dr := fun i j hij hj hT0 => by
    rcases indepAll_spec hi i j (dr i) (dr j) hij (c5 i (by omega)) (c5 j hj) with h | h
    · rw [h] at hT0; cases hT0
    · exact h
  have hwait : ∀ i n v, i < b → insOf (dr i) = some (n, v) → inT T (m + i0) (m + i) = true ∧ mapE l n = v := fun i n v hi hd => insChk_spec hk i (dr i) n v (c5 i hi) hd
  refine run_drawJ b (nx' := nx + b) (dst := fun j => (dr j).dst) (J := fun X β tmps w => Inv b nx Sl Hs dr ro B X β tmps w ∧ MapJ b i0 (nx + i0) q Hs dr l B X β w) hT hle hbar
    (fun β tmps w h1 h2 => ⟨inv_none (fun _ _ _ => trivial) (by rw [c1]; exact h1) (by rw [c2]; exact h2), fun hf => hf.elim⟩)
    (fun hlt fb k fs X j hX hj hjX hpre β tmps w hI hsz r => ?_) ?_
    (fun hlt => by rw [← c3]; exact chain_lt hch (by rw [c1]; exact hlt) b (Nat.le_refl _)) h
  · obtain ⟨hI, hMJ⟩ := hI
    obtain ⟨o, cs1, d1, d2, ⟨d3, d4⟩, d5, d6⟩ := hch.step j hj
    unfold dopM at d3
    split at d3 <;> first | exact (none_ne d3).elim | skip
    rename_i hg
    split at d3
    · rename_i t' hop
      obtain ⟨g1, g2⟩ := bif_some d3
      have g1 := beq_nat g1
      have : j = i0 := by omega
      subst this
      simp only [Prod.mk.injEq] at g2
      exact new_did hB hch hin hX hj hjX hpre hI hsz (fun i p hi hp => (hwait i p.1 p.2 hi hp).1) d1 hg hop g2.2 fb k fs r
    · rename_i t' mm kk x hop
      have hj0 : j ≠ i0 := by
        intro e; subst e
        have hins : ∃ p, insOf (dr j) = some p := by
          have d3' := d3
          unfold insM at d3'
          split at d3' <;> first | exact (none_ne d3').elim | skip
          split at d3' <;> first | exact (none_ne d3').elim | skip
          obtain ⟨_, d3'⟩ := bif_some' d3'
          rw [SV.force_eq] at d3'
          simp only [Option.some.injEq, Prod.mk.injEq] at d3'
          obtain ⟨_, d3'⟩ := d3'
          exact ⟨_, by rw [← d3']; rfl⟩
        obtain ⟨p, hp⟩ := hins
        have := (hwait j p.1 p.2 hj hp).1
        exact hjX (hpre j hj this)
      exact ins_did hch hin hX hj hjX hpre hI hMJ hwait h0 hj0 d1 hg d2 hop d3 fb k fs r
    · rename_i hnm hni
      have hj0 : j ≠ i0 := by
        intro e; subst e
        rw [d1] at hmk0
        unfold isMk at hmk0
        split at hmk0
        · rename_i o' e1
          injection e1 with e1; subst e1
          split at hmk0
          · rename_i t' e2; exact hnm t' e2
          · cases hmk0
        · cases hmk0
      unfold othM at d3
      split at d3
      · rename_i cs2 d e1
        split at d3 <;> first | exact (none_ne d3).elim | skip
        rename_i e2
        simp only [Option.some.injEq, Prod.mk.injEq] at d3
        obtain ⟨rfl, rfl⟩ := d3
        obtain ⟨β1, w1, v, a1, a2, a4⟩ := op_did1 hP hM hch hin (by rw [c1]; exact hlt) hX hj hjX hpre hI hsz d1 d2 e1 fb k fs r
        exact ⟨β1, w1, v, a1.le, ⟨inv_step hB hch hin hX hj hjX hpre hI hsz a1 a2, mapJ_did hch hin hX hj hjX hpre hI a1 hj0 e2 hMJ⟩, a4⟩
      · split at d3 <;> first | exact (none_ne d3).elim | skip
        rename_i cs2 d e1
        split at d3 <;> first | exact (none_ne d3).elim | skip
        rename_i e2
        simp only [Option.some.injEq, Prod.mk.injEq] at d3
        obtain ⟨rfl, rfl⟩ := d3
        obtain ⟨β1, w1, v, a1, a2, a4⟩ := mk_did hP hmk hch hin hX hj hjX hpre hI d1 hg d2 e1 fb k fs r
        exact ⟨β1, w1, v, a1.le, ⟨inv_step hB hch hin hX hj hjX hpre hI hsz a1 a2, mapJ_did hch hin hX hj hjX hpre hI a1 hj0 e2 hMJ⟩, a4⟩
  · rintro β tmps w ⟨hI, hMJ⟩
    obtain ⟨e1, e2⟩ := inv_all hch hI
    rw [c3] at e1
    rw [c4] at e2
    obtain ⟨bl, es, c, m1, m2, m3, m4, m5, m6⟩ := hMJ h0
    have hfin : MRel β q (mapH l) (.any (mapE l)) es c := by
      have e : hX b dr (fun i => i < b) = mapH l := by
        funext a
        rw [Bool.eq_iff_iff, hX_iff, mapH_iff]
        constructor
        · rintro ⟨j, v, g1, _, g3⟩; exact ⟨j, dr j, v, c5 j g1, g3⟩
        · rintro ⟨j, d, v, g1, g3⟩
          have hj : j < b := by rw [← c6]; exact (List.getElem?_eq_some_iff.1 g1).1
          have := c5 j hj
          rw [g1] at this; injection this with this; subst this
          exact ⟨j, v, hj, hj, g3⟩
      rw [← e]; exact m5
    have lastAllH : ∀ t s, hget t hp' = some s → ∃ kk, LastH b dr (fun i => i < b) t kk ∧ hget t (Hs kk) = some s := by
      intro t s hs
      obtain ⟨kk, h1, h2, h3⟩ := last_before (fun i => t ∈ (dr i).mod) b
      refine ⟨kk, ⟨h1, ?_, ?_⟩, ?_⟩
      · by_cases hk : kk = 0
        · exact .inl hk
        · exact .inr ⟨by omega, h2.resolve_left hk⟩
      · intro i hi hd
        rcases Nat.lt_or_ge i kk with g | g
        · exact g
        · exact absurd hd (h3 i g hi)
      · have := keep_hget hch t (b - kk) kk (by omega) (fun i g1 g2 => h3 i g1 (by omega))
        rw [show kk + (b - kk) = b by omega, c4] at this; rw [← this]; exact hs
    refine ⟨e1, ⟨⟨?_, ?_, e2.read, e2.old, e2.os, e2.tape, e2.output, e2.size, e2.pin⟩, e2.fresh⟩⟩
    · intro t s ht hl
      simp only [hget] at ht
      cases hbq : Nat.beq t (nx + i0) with
      | true =>
        rw [hbq] at ht; injection ht with ht; subst ht
        have := beq_nat hbq; subst this
        exact ⟨bl, _, m1, m3, m4, ⟨es, c, rfl, hfin⟩, ⟨trivial, by rw [m2]; exact Nat.zero_le _⟩⟩
      | false => rw [hbq] at ht; exact e2.own t s ht hl
    · have ap : ∀ t s, hget t hp' = some s → s.Live → β t ≠ some bl := fun t s ht hl => by
        obtain ⟨kk, k1, k2⟩ := lastAllH t s ht
        exact m6 t kk s k1 k2 hl
      intro t u s s' ht hu ls ls' hne
      simp only [hget] at ht hu
      cases hbt : Nat.beq t (nx + i0) with
      | true =>
        have := beq_nat hbt; subst this
        cases hbu : Nat.beq u (nx + i0) with
        | true => have := beq_nat hbu; exact absurd this.symm hne
        | false =>
          rw [hbu] at hu
          rw [m1]; exact Ne.symm (ap u s' hu ls')
      | false =>
        rw [hbt] at ht
        cases hbu : Nat.beq u (nx + i0) with
        | true =>
          have := beq_nat hbu; subst this
          rw [m1]; exact ap t s ht ls
        | false =>
          rw [hbu] at hu
          exact e2.apart t u s s' ht hu ls ls' hne
end
end Sx
end
section
namespace Sx
open Go

/-- A call that only reads: who, with what, which blocks under which names, what it gives. -/
structure RC where
  g : Nat
  xs : List SV
  roc : Hp
  nxc : Nat
  r : SV
  sg : List Nat
  nxo : Nat
def RcOk (P : Program) (c : RC) : Prop := HC P c.g c.xs [] c.roc c.nxc (fun _ : Unit => True) (fun _ => ⟨c.r, [], c.nxo⟩) ∧ c.r.closed = true ∧ c.sg.length = c.nxc
/-- By the new name of an operation in its turn. -/
abbrev RT := List (Nat × RC)
def rtGet (i : Nat) : RT → Option RC
  | [] => none
  | (j, c) :: r => bif Nat.beq i j then some c else rtGet i r
def rtOk (P : Program) : RT → Prop
  | [] => True
  | (_, c) :: r => RcOk P c ∧ rtOk P r
theorem rtGet_ok {P : Program} {i : Nat} {c : RC} : ∀ {l : RT}, rtOk P l → rtGet i l = some c → RcOk P c
  | [], _, h => by cases h
  | (j, c') :: r, hk, h => by
    simp only [rtGet] at h
    cases hb : Nat.beq i j with
    | true => rw [hb] at h; injection h with h; subst h; exact hk.1
    | false => rw [hb] at h; exact rtGet_ok hk.2 h

theorem HC.reads {P : Program} {c : RC} (h : RcOk P c) {β : Env} {hp ro : Hp} {B : Base} {nx : Nat} {w : World} {es : List Prop} {vs : List Value} (hs : Sat β hp ro B nx w) (hlt : allLt nx c.sg = true) (hcov : cover (hkeys c.roc) c.sg.length = true)
    (h2 : orM nx c.sg hp ro c.roc = some es) (hes : All es) (hargs : RelL (β.via nx c.sg) c.xs vs) : Calls P c.g vs.toArray w fun e w' => ∃ u, e = .returned u ∧ Rel β c.r u ∧ RowKit.Below w.heap.size w w' := by
  obtain ⟨hHC, hcl, hl⟩ := h
  have hs1 : Sat (β.via nx c.sg) [] c.roc (Base.all w) c.nxc w := by
    refine ⟨⟨fun _ _ h => (none_ne h).elim, fun _ _ _ _ h => (none_ne h).elim, ?_, fun _ _ h => h, rfl, rfl, rfl, Nat.le_refl _, Env.nil_le _⟩, ?_⟩
    · intro i so hi hlive
      obtain ⟨s, cs, e1, e2, e3⟩ := orM_spec h2 hes hi hlive
      have hsl := eqO_live e2 e3 hlive
      rcases e1 with e1 | e1
      · obtain ⟨b, o, g1, g2, g3, g4, g5⟩ := hs.own _ _ e1 hsl
        exact ⟨b, o, g1, g3, eqO_rel e2 e3 g4⟩
      · obtain ⟨b, o, g1, g2, g3⟩ := hs.read _ _ e1 hsl
        exact ⟨b, o, g1, hs.old b o g2, eqO_rel e2 e3 g3⟩
    · intro i hi
      show β (sig nx c.sg i) = none
      rw [sig_ge (by omega)]; exact hs.fresh _ (by omega)
  refine (hHC (Base.all w) _ w vs (Base.all_ok w) hargs hs1).mono ?_
  rintro e w' ⟨z, β2, u, _, _, rfl, hu, hs2⟩
  exact ⟨u, rfl, Rel.closed _ _ hcl hu, hs2.below_all⟩

def guardC (ops : Array Oper) (sl : Slots) (o : Oper) : Option (Option Bool) :=
  match guardIn ops sl o with
  | some .run => some none
  | some (.may g) => some (some g)
  | _ => none
def dopR (P : Program) (M : Mode) (ro : Hp) (ops : Array Oper) (tb : RT) (N : Nat) (idn : Nat) (o : Oper) (sl : Slots) (hp : Hp) : Option (List Prop × DR) :=
  match rtGet idn tb with
  | none => dop P M ro ops idn o sl hp
  | some c => match thin (opSlots ops o) sl with
    | none => none
    | some slv => match thinH c.sg hp with
      | none => none
      | some hpv => match guardC ops slv o, callee P slv o.op with
        | some gd, some (cs0, g, _, _, as) => bif Nat.beq g c.g && allLt N c.sg && cover (hkeys c.roc) c.sg.length then
            match renFL N c.sg c.xs (fun ys => eqL ys as), orM N c.sg hpv ro c.roc with
            | some cs1, some cs2 => match gd with
              | none => some (cs0 ++ (cs1 ++ cs2), ⟨opSlots ops o, o.dst, c.sg, none, [], c.r⟩)
              | some g => some ((cs0 ++ (cs1 ++ cs2)).map (fun p => g = true → p), ⟨opSlots ops o, o.dst, c.sg, none, [], .cnd g c.r⟩)
            | _, _ => none
          else none
        | _, _ => none
theorem dopR_dst {P : Program} {M : Mode} {ro : Hp} {ops : Array Oper} {tb : RT} {N : Nat} (idn : Nat) (o : Oper) (sl : Slots) (hp : Hp) (cs : List Prop) (d : DR) (h : dopR P M ro ops tb N idn o sl hp = some (cs, d)) : d.dst = o.dst := by
  unfold dopR at h
  split at h
  · exact dop_dst h
  · split at h <;> first | exact (none_ne h).elim | skip
    split at h <;> first | exact (none_ne h).elim | skip
    split at h <;> first | exact (none_ne h).elim | skip
    obtain ⟨_, h⟩ := bif_some' h
    split at h <;> first | exact (none_ne h).elim | skip
    split at h
    · simp only [Option.some.injEq, Prod.mk.injEq] at h
      obtain ⟨_, rfl⟩ := h; rfl
    · simp only [Option.some.injEq, Prod.mk.injEq] at h
      obtain ⟨_, rfl⟩ := h; rfl

section
variable {P : Program} {M : Mode} {ro : Hp} {ops : Array Oper} {T : List (List Nat)} {n nx m b : Nat} {Sl : Nat → Slots} {Hs : Nat → Hp} {dr : Nat → DR} {B : Base}
theorem rc_did {D : DRel} {dd : List Deferred} (hP : Named P) {tb : RT} (htb : rtOk P tb) (hch : Chain D ops n nx m b Sl Hs dr) (hin : Indeps T m b dr) (h0 : ∀ t v, look t (Sl 0) = some v → t < n) {X : Nat → Prop} (hX' : Closed T m b X) {j : Nat} (hj : j < b) (hjX : ¬ X j)
    (hpre : ∀ i, i < b → inT T (m + i) (m + j) = true → X i) {β : Env} {tmps : Array Value} {w : World} (hI : Inv b nx Sl Hs dr ro B X β tmps w) (hsz : tmps.size = n)
    {o : Oper} {cs : List Prop} (ho : ops[m + j]? = some o) (hc : All cs) {c : RC} (hrt : rtGet (nx + j) tb = some c) (hd : dopR P M ro ops tb (nx + b) (nx + j) o (Sl j) (Hs j) = some (cs, dr j)) (fb : Frame) (k : List Item) (fs : List Frame) (r : List Nat) :
    ∃ (β' : Env) (w' : World) (v : Value), Did (Hs j) β (dr j) (nx + j) w β' w' ∧ Rel β' (dr j).v v ∧
      Steps P (lone (fb.atR ⟨tmps, dd⟩ (.inRegion ops ((m + j) :: r) :: k)) fs w) (lone (fb.atR (Act.put ⟨tmps, dd⟩ (dr j).dst v) (.inRegion ops r :: k)) fs w') := by
  have hdd := dopR_dst _ _ _ _ _ _ hd
  have hltj := chain_lt hch h0 j (by omega)
  unfold dopR at hd
  rw [hrt] at hd
  simp only at hd
  split at hd <;> first | exact (none_ne hd).elim | skip
  rename_i slv e1
  split at hd <;> first | exact (none_ne hd).elim | skip
  rename_i hpv e2
  split at hd <;> first | exact (none_ne hd).elim | skip
  rename_i gd cs0 g gf gb as eg e3
  obtain ⟨hb, hd2⟩ := bif_some' hd
  clear hd
  have hd := hd2
  clear hd2
  simp only [Bool.and_eq_true] at hb
  obtain ⟨⟨hb1, hb2⟩, hb3⟩ := hb
  have hb1 := beq_nat hb1
  split at hd <;> first | exact (none_ne hd).elim | skip
  rename_i cs1 cs2 e4 e5
  rw [renFL_eq] at e4
  have hrs : (dr j).rs = opSlots ops o ∧ (dr j).rh = c.sg ∧ (dr j).wh = none ∧ (dr j).dl = [] := by
    split at hd <;>
    · simp only [Option.some.injEq, Prod.mk.injEq] at hd
      obtain ⟨_, hd⟩ := hd
      rw [← hd]; exact ⟨rfl, rfl, rfl, rfl⟩
  have hrho := rho_view (dd := dd) hch hin hX' hj hjX hpre hI e1 hrs.1
  have hlt : ∀ t v, look t slv = some v → t < tmps.size := by
    intro t v hv
    rw [thin_get e1 t] at hv
    split at hv
    · rw [hsz]; exact hltj t v hv
    · cases hv
  have g2 := thinH_get e2
  have rdH : ∀ {t}, t ∈ c.sg → ∀ s, hget t (Hs j) = some s → ∃ kk, LastH b dr X t kk ∧ hget t (Hs kk) = some s := by
    intro t ht s hs
    obtain ⟨kk, k1, k2⟩ := read_heap hch hin hX' hj hjX hpre (t := t) (by rw [hrs.2.1]; exact ht)
    exact ⟨kk, k1, by rw [k2]; exact hs⟩
  have hsat : Sat β hpv ro B (nx + b) w := by
    refine ⟨⟨?_, ?_, hI.read, hI.old, hI.os, hI.tape, hI.output, hI.size, hI.pin⟩, ?_⟩
    · intro i s hi hlive
      rw [g2 i] at hi
      split at hi
      · rename_i hm
        obtain ⟨kk, k1, k2⟩ := rdH (hasN_mem.1 hm) s hi
        exact hI.H i kk s k1 k2 hlive
      · cases hi
    · intro i i' s s' hi hi' ls ls' hne
      rw [g2 i] at hi
      rw [g2 i'] at hi'
      split at hi
      · rename_i hm
        split at hi'
        · rename_i hm'
          obtain ⟨kk, k1, k2⟩ := rdH (hasN_mem.1 hm) s hi
          obtain ⟨kk', k1', k2'⟩ := rdH (hasN_mem.1 hm') s' hi'
          exact hI.A i kk s i' kk' s' k1 k2 k1' k2' ls ls' hne
        · cases hi'
      · cases hi
    · intro i hi
      cases hb : β i with
      | none => rfl
      | some bl =>
        rcases hI.F _ bl hb with h | ⟨j', h1, h2⟩
        · omega
        · have := hX'.1 j' h1; omega
  have go : All (cs0 ++ (cs1 ++ cs2)) → Region.wanted o (yielded ops tmps) = true → ∃ (w' : World) (u : Value), RowKit.Below w.heap.size w w' ∧ Rel β c.r u ∧
      Steps P (lone (fb.atR ⟨tmps, dd⟩ (.inRegion ops ((m + j) :: r) :: k)) fs w) (lone (fb.atR (Act.put ⟨tmps, dd⟩ (dr j).dst u) (.inRegion ops r :: k)) fs w') := by
    intro hall hw
    obtain ⟨hfn, hbd, vs, hl, hrun⟩ := callee_run (w := w) hP hrho e3 hall.left
    have hst := op_enter (P := P) (b := fb) (a := ⟨tmps, dd⟩) (k := k) (cs := fs) (w := w) (ops := ops) (i := m + j) (rest := r) ho hw hrun
    have hargs : RelL (β.via (nx + b) c.sg) c.xs vs := (renL_rel _ _).1 (eqL_less _ _ _ e4 hall.right.left β vs hl)
    have hcall := HC.reads (rtGet_ok htb hrt) hsat hb2 hb3 e5 hall.right.right hargs
    rw [hb1] at hst
    obtain ⟨e, w', fr', ⟨u, rfl, hu, hbel⟩, hco, _, hlv⟩ := hcall (fb.atR ⟨tmps, dd⟩ (.inRegion ops ((m + j) :: r) :: k) :: fs)
    refine ⟨w', u, hbel, hu, (Steps.one hst).trans (Steps.trans hco (.one ?_))⟩
    have hfin : (fb.atR ⟨tmps, dd⟩ (.inRegion ops ((m + j) :: r) :: k)).finish u = fb.atR (Act.put ⟨tmps, dd⟩ (dr j).dst u) (.inRegion ops r :: k) := by rw [Frame.finish_atR, ho, hdd]; rfl
    rw [← hfin]
    exact step_leave_returned hlv
  split at hd
  · -- it runs
    simp only [Option.some.injEq, Prod.mk.injEq] at hd
    obtain ⟨rfl, hd⟩ := hd
    unfold guardC at eg
    split at eg <;> first | exact (none_ne eg).elim | skip
    · rename_i e6
      have hw := guard_rel e6 hsz hrho.slot hlt
      obtain ⟨w', u, hbel, hu, hst⟩ := go hc hw
      exact ⟨β, w', u, did_below hrs.2.2.1 hrs.2.2.2 hbel, by rw [← hd]; exact hu, hst⟩
    · cases eg
  · rename_i gg
    simp only [Option.some.injEq, Prod.mk.injEq] at hd
    obtain ⟨rfl, hd⟩ := hd
    unfold guardC at eg
    split at eg <;> first | exact (none_ne eg).elim | skip
    · cases eg
    · rename_i g' e6
      simp only [Option.some.injEq] at eg
      subst eg
      have hw := guard_rel e6 hsz hrho.slot hlt
      cases g' with
      | false =>
        refine ⟨β, w, undef, did_same hrs.2.2.1 hrs.2.2.2, by rw [← hd]; exact ⟨fun e => Bool.noConfusion e, fun _ => rfl⟩, ?_⟩
        rw [hdd]
        exact .one (op_pass ho hw)
      | true =>
        obtain ⟨w', u, hbel, hu, hst⟩ := go (fun p hp' => hc _ (List.mem_map_of_mem hp') rfl) hw
        exact ⟨β, w', u, did_below hrs.2.2.1 hrs.2.2.2 hbel, by rw [← hd]; exact ⟨fun _ => hu, fun e => Bool.noConfusion e⟩, hst⟩

variable {f : FuncId} {R : Ending → World → Prop}
/-- A block of b operations from the m-th on, in whatever order; the table's calls only read. -/
theorem run_drawR (b : Nat) (hP : Named P) (hB : B.ok) (hM : SumOk P M.sum) {fn : FId} {n : Nat} {sl sl' : Slots} {ops : Array Oper} {m t : Nat} {k : List SI} {rest : List SFr} {hp hp' : Hp} {nx : Nat} {T : List (List Nat)} {cs : List Prop} {l : List DR} (tb : RT) (htb : rtOk P tb)
    (hT : closeGo [] ops.toList = some T) (hb : dblkG (dopR P M ro ops tb (nx + b)) n ((ops.toList.drop m).take b) nx sl hp [] = some (cs, sl', hp', l)) (hle : Nat.ble (m + b) ops.size = true) (hi : indepAll T m l = true)
    (hbar : barAll T m b (m + b) (ops.size - (m + b)) = true) (hc : conj cs)
    (h : ∀ t, Run P ro B f R ⟨⟨fn, n, sl', .reg ops (m + b) [] (some (goF ops (m + b) t)) :: k⟩, rest, hp', nx + b⟩) : Run P ro B f R ⟨⟨fn, n, sl, .reg ops m [] (some (goF ops m t)) :: k⟩, rest, hp, nx⟩ := by
  have hle' := ble_nat hle
  have hlen : ((ops.toList.drop m).take b).length = b := by simp; omega
  obtain ⟨_, Sl, Hs, dr, c1, c2, c3, c4, hch, c5, c6⟩ := dblkG_chain (dopR_dst (P := P) (M := M) (ro := ro) (ops := ops) (tb := tb) (N := nx + b)) (ops := ops) (m := m) hb (all_conj hc) (fun i hi => by
    rw [hlen] at hi
    rw [List.getElem?_take, if_pos hi, List.getElem?_drop]; simp)
  rw [hlen] at c3 c4 hch c5 c6
  have hin : Indeps T m b dr := fun i j hij hj hT0 => by
    rcases indepAll_spec hi i j (dr i) (dr j) hij (c5 i (by omega)) (c5 j hj) with h | h
    · rw [h] at hT0; cases hT0
    · exact h
  refine run_drawJ b (nx' := nx + b) (dst := fun j => (dr j).dst) (J := fun X β tmps w => Inv b nx Sl Hs dr ro B X β tmps w) hT hle hbar (fun β tmps w h1 h2 => inv_none (fun _ _ _ => trivial) (by rw [c1]; exact h1) (by rw [c2]; exact h2))
    (fun hlt fb k fs X j hX hj hjX hpre β tmps w hI hsz r => ?_) (fun β tmps w hI => by have := inv_all hch hI; rw [c3, c4] at this; exact this)
    (fun hlt => by rw [← c3]; exact chain_lt hch (by rw [c1]; exact hlt) b (Nat.le_refl _)) h
  obtain ⟨o, cs1, d1, d2, ⟨d3, d4⟩, d5, d6⟩ := hch.step j hj
  cases hrt : rtGet (nx + j) tb with
  | none =>
    have d3' := d3
    unfold dopR at d3'
    rw [hrt] at d3'
    obtain ⟨β1, w1, v, a1, a2, a4⟩ := op_did1 hP hM hch hin (by rw [c1]; exact hlt) hX hj hjX hpre hI hsz d1 d2 d3' fb k fs r
    exact ⟨β1, w1, v, a1.le, inv_step hB hch hin hX hj hjX hpre hI hsz a1 a2, a4⟩
  | some c =>
    obtain ⟨β1, w1, v, a1, a2, a4⟩ := rc_did hP htb hch hin (by rw [c1]; exact hlt) hX hj hjX hpre hI hsz d1 d2 hrt d3 fb k fs r
    exact ⟨β1, w1, v, a1.le, inv_step hB hch hin hX hj hjX hpre hI hsz a1 a2, a4⟩
end
end Sx
end
