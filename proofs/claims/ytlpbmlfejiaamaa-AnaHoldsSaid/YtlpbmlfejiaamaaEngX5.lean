/- The symbolic machine, part 5: what its steps give, proved against the model. Conditions: as each theorem says. -/
import Derived.Test.YtlpbmlfejiaamaaEngX4
set_option linter.unusedSimpArgs false
set_option linter.unusedVariables false
section
namespace Sx
open Go

/-- What is known of some blocks. -/
abbrev Kn := Nat → Option Obj
/-- From B, where K0 is known, to B, where K is known: only what M names may have changed, and what is new was not there before. -/
structure Fz (B0 : Base) (K0 : Kn) (M : Nat → Prop) (B : Base) (K : Kn) : Prop where
  ok : B.ok
  kd : B.kd = B0.kd
  pin : B0.pin.le B.pin
  os : B.w.os = B0.w.os
  tape : B.w.tape = B0.w.tape
  output : B.w.output = B0.w.output
  size : B0.w.heap.size ≤ B.w.heap.size
  keep : ∀ b o, B0.D b = some o → ¬ M b → B.D b = some o
  le : ∀ b o, K b = some o → B.D b = some o
  old : ∀ b o, K0 b = some o → ¬ M b → K b = some o
  new : ∀ b o, K b = some o → K0 b ≠ none ∨ B0.D b = none
abbrev M0 : Nat → Prop := fun _ => False
theorem Fz.refl {B : Base} {K : Kn} {M : Nat → Prop} (hB : B.ok) (hK : ∀ b o, K b = some o → B.D b = some o) : Fz B K M B K :=
  ⟨hB, rfl, Env.le_refl _, rfl, rfl, rfl, Nat.le_refl _, fun _ _ h _ => h, hK, fun _ _ h _ => h, fun _ _ h => .inl (by rw [h]; simp)⟩
theorem Fz.trans {B0 B1 B2 : Base} {K0 K1 K2 : Kn} {M M' : Nat → Prop} (h : Fz B0 K0 M B1 K1) (g : Fz B1 K1 M' B2 K2) (hK : ∀ b o, K0 b = some o → B0.D b = some o) (hM : ∀ b, M b → K0 b ≠ none) (hMM : ∀ b, M' b → M b ∨ B0.D b = none) : Fz B0 K0 M B2 K2 := by
  refine ⟨g.ok, g.kd.trans h.kd, Env.le_trans h.pin g.pin, g.os.trans h.os, g.tape.trans h.tape, g.output.trans h.output, Nat.le_trans h.size g.size, fun b o e hm => ?_, g.le, fun b o e hm => ?_, fun b o e => ?_⟩
  · refine g.keep b o (h.keep b o e hm) fun hm' => ?_
    rcases hMM b hm' with q | q
    · exact hm q
    · rw [e] at q; cases q
  · refine g.old b o (h.old b o e hm) fun hm' => ?_
    rcases hMM b hm' with q | q
    · exact hm q
    · rw [hK b o e] at q; cases q
  · rcases g.new b o e with q | q
    · cases hk : K1 b with
      | none => exact absurd hk q
      | some o1 => exact h.new b o1 hk
    · by_cases hm : M b
      · exact .inl (hM b hm)
      · right
        cases hb : B0.D b with
        | none => rfl
        | some o1 => rw [h.keep b o1 hb hm] at q; cases q
theorem Fz.trans0 {B0 B1 B2 : Base} {K0 K1 K2 : Kn} {M : Nat → Prop} (h : Fz B0 K0 M B1 K1) (g : Fz B1 K1 M0 B2 K2) (hK : ∀ b o, K0 b = some o → B0.D b = some o) (hM : ∀ b, M b → K0 b ≠ none) : Fz B0 K0 M B2 K2 := h.trans g hK hM fun _ h => h.elim
theorem Fz.more {B0 B1 B2 : Base} {K0 K1 : Kn} {M : Nat → Prop} (h : Fz B0 K0 M B1 K1) (g : More B1 B2) : Fz B0 K0 M B2 K1 := by
  obtain ⟨D2, w2, p2, k2⟩ := B2
  obtain ⟨g1, g2, g3, g4⟩ := g
  simp only at g1 g2 g3 g4
  subst g1 g2 g4
  exact ⟨h.ok, h.kd, Env.le_trans h.pin g3, h.os, h.tape, h.output, h.size, h.keep, h.le, h.old, h.new⟩
/-- The base before stands as well, where nothing known may change. -/
theorem Fz.sat {B0 B : Base} {K0 K : Kn} (h : Fz B0 K0 M0 B K) {β : Env} {hp : Hp} {nx : Nat} {w : World} (hs : Sat β hp [] B nx w) : Sat β hp [] B0 nx w := by
  refine ⟨⟨fun i s hi hl => ?_, hs.apart, fun _ _ h => (none_ne h).elim, fun b o e => hs.old b o (h.keep b o e (fun h => h)), hs.os.trans h.os, hs.tape.trans h.tape, hs.output.trans h.output, Nat.le_trans h.size hs.size, Env.le_trans h.pin hs.pin⟩, hs.fresh⟩
  obtain ⟨b, o, h1, h2, h3, h4, h5⟩ := hs.own i s hi hl
  refine ⟨b, o, h1, ?_, h3, h4, h5⟩
  cases hb : B0.D b with
  | none => rfl
  | some o' => rw [h.keep b o' hb (fun h => h)] at h2; cases h2

theorem PinTo.fz {B B' : Base} {np : Nat} {K K' : Kn} {M : Nat → Prop} (h : PinTo B np) (hF : Fz B K M B' K') (hp : B'.pin = B.pin) : PinTo B' np := ⟨fun i hi => by rw [hp]; exact h.p i hi, hF.kd.trans h.k⟩
/-- v is a slice of n elements of sz cells, which are f: known for good. -/
def Froz (K : Kn) (v : Value) (n sz : Nat) (f : Nat → Nat → SV) : Prop :=
  ∃ base room, v = .slice base n room ∧ (base = none → room = 0) ∧
    (0 < n → n ≤ room ∧ ∃ b o c tt fz, base = some ⟨b, o, none⟩ ∧ K b = some (.cells c tt fz) ∧ ∀ i k, i < n → k < sz → ∃ u, c[o + i * sz + k]? = some u ∧ Rel Env.nil (f i k) u)
theorem Froz.mono {K K' : Kn} {v : Value} {n sz : Nat} {f : Nat → Nat → SV} (h : Froz K v n sz f) (g : ∀ b o, K b = some o → K' b = some o) : Froz K' v n sz f := by
  obtain ⟨base, room, h1, h2, h3⟩ := h
  refine ⟨base, room, h1, h2, fun h0 => ?_⟩
  obtain ⟨h4, b, o, c, tt, fz, h5, h6, h7⟩ := h3 h0
  exact ⟨h4, b, o, c, tt, fz, h5, g _ _ h6, h7⟩
theorem Froz.fz {B B' : Base} {K K' : Kn} {v : Value} {n sz : Nat} {f : Nat → Nat → SV} (h : Froz K v n sz f) (g : Fz B K M0 B' K') : Froz K' v n sz f := h.mono fun b o e => g.old b o e (fun h => h)
theorem Froz.nil (K : Kn) (sz : Nat) (f : Nat → Nat → SV) : Froz K (.slice none 0 0) 0 sz f := ⟨none, 0, rfl, fun _ => rfl, fun h => absurd h (Nat.lt_irrefl 0)⟩
theorem Froz.congr {K : Kn} {v : Value} {n sz : Nat} {f g : Nat → Nat → SV} (h : Froz K v n sz f) (e : ∀ i k, i < n → k < sz → g i k = f i k) : Froz K v n sz g := by
  obtain ⟨base, room, h1, h2, h3⟩ := h
  refine ⟨base, room, h1, h2, fun h0 => ?_⟩
  obtain ⟨h4, b, o, c, tt, fz, h5, h6, h7⟩ := h3 h0
  refine ⟨h4, b, o, c, tt, fz, h5, h6, fun i k hi hk => ?_⟩
  rw [e i k hi hk]; exact h7 i k hi hk
section
variable {P : Program} {ro : Hp} {B : Base} {f : FuncId} {R : Ending → World → Prop}
/-- A known slice is laid open to be read. -/
theorem run_open {K : Kn} (hK : ∀ b o, K b = some o → B.D b = some o) (t : Nat) {v : Value} {m sz : Nat} {g : Nat → Nat → SV} (hF : Froz K v m sz g) (hsz : 0 < sz) {fn : FId} {n : Nat} {sl : Slots} {td : List SI} {rest : List SFr} {hp : Hp} {nx : Nat} (ht : look t sl = some (.val v))
    (hr : ∀ off, Run P ((nx, .row off m m sz g anyTy) :: ro) B f R ⟨⟨fn, n, (t, .sq nx off 0 sz m .no) :: sl, td⟩, rest, hp, nx + 1⟩) : Run P ro B f R ⟨⟨fn, n, sl, td⟩, rest, hp, nx⟩ := by
  intro β w fr frs cs hf hfs hs hcs
  obtain ⟨base, room, e1, e2, e3⟩ := hF
  have hv : fr.tmps.getD t undef = v := (hf.slot t _ ht).1
  have key : ∃ off, ∃ β' : Env, β.le β' ∧ Rel β' (.sq nx off 0 sz m .no) v ∧ Sat β' hp ((nx, .row off m m sz g anyTy) :: ro) B (nx + 1) w := by
    rcases Nat.eq_zero_or_pos m with h0 | h0
    · subst h0
      refine ⟨0, β, Env.le_refl _, ⟨base, room, e1, e2, fun h => (by cases h), fun h => (by cases h), fun h => absurd h (Nat.lt_irrefl _)⟩, ⟨⟨hs.own, hs.apart, fun i s hi hl => ?_, hs.old, hs.os, hs.tape, hs.output, hs.size, hs.pin⟩, fun i hi => hs.fresh i (by show nx ≤ i; omega)⟩⟩
      simp only [hget] at hi
      cases hb : Nat.beq i nx with
      | true => rw [hb] at hi; simp only [cond_true, Option.some.injEq] at hi; subst hi; exact absurd hl (Nat.lt_irrefl 0)
      | false => rw [hb] at hi; exact hs.read i s hi hl
    · obtain ⟨h4, b, o, c, tt, fz, h5, h6, h7⟩ := e3 h0
      have hfr := hs.fresh nx (Nat.le_refl _)
      have hle := Env.le_add (b := b) (r := 0) hfr
      have hne : ∀ i b', β i = some b' → i ≠ nx := by
        intro i b' h e; subst e; rw [hfr] at h; cases h
      refine ⟨o, β.add nx b 0, hle, ⟨base, room, e1, e2, fun h => (by cases h), fun h => (by cases h), fun _ => ⟨h4, b, Env.add_same _ _ _ _, by rw [h5]; simp, fun h => (by cases h)⟩⟩, ⟨⟨fun i s hi hl => ?_, fun i j s t hi hj hl ht hij => ?_, fun i s hi hl => ?_, hs.old, hs.os, hs.tape, hs.output, hs.size, Env.le_trans hs.pin hle⟩, fun i hi => ?_⟩⟩
      · obtain ⟨b', o', h1, h2, h3, h4, h5⟩ := hs.own i s hi hl
        have hn := hne i b' h1
        exact ⟨b', o', (Env.add_other _ _ _ hn).trans h1, h2, h3, ORel.mono hle _ _ h4, by rw [Env.add_room_other _ _ _ hn]; exact h5⟩
      · obtain ⟨b1, o1, h1, _⟩ := hs.own i s hi hl
        obtain ⟨b2, o2, h2, _⟩ := hs.own j t hj ht
        rw [Env.add_other _ _ _ (hne i b1 h1), Env.add_other _ _ _ (hne j b2 h2)]
        exact hs.apart i j s t hi hj hl ht hij
      · simp only [hget] at hi
        cases hb : Nat.beq i nx with
        | true =>
          rw [hb] at hi; simp only [cond_true, Option.some.injEq] at hi; subst hi
          have := beq_nat hb; subst this
          refine ⟨b, _, Env.add_same _ _ _ _, hK _ _ h6, c, fz, tt, .inl rfl, rfl, Nat.le_refl _, ?_, fun i k hi hk => ?_⟩
          · obtain ⟨u, hu, _⟩ := h7 (m - 1) (sz - 1) (by omega) (by omega)
            have := (Array.getElem?_eq_some_iff.1 hu).1
            have h8 : (m - 1) * sz + sz = m * sz := by
              obtain ⟨q, rfl⟩ : ∃ q, m = q + 1 := ⟨m - 1, by omega⟩
              simp [Nat.succ_mul]
            omega
          · obtain ⟨u, hu, hr⟩ := h7 i k hi hk
            exact ⟨u, hu, Rel.mono (Env.nil_le _) _ _ hr⟩
        | false =>
          rw [hb] at hi
          obtain ⟨b', o', h1, h2, h3⟩ := hs.read i s hi hl
          exact ⟨b', o', (Env.add_other _ _ _ (hne i b' h1)).trans h1, h2, ORel.mono hle _ _ h3⟩
      · rw [Env.add_other _ _ _ (by omega)]; exact hs.fresh i (by show nx ≤ i; omega)
  obtain ⟨off, β', hle, hrel, hs'⟩ := key
  refine hr off β' w fr frs cs ?_ (hfs.mono hle) hs' hcs
  have hf' := hf.mono hle
  refine { hf' with slot := fun t' u hu => ?_, lt := fun t' u hu => ?_ }
  · simp only [look] at hu
    cases hb : Nat.beq t' t with
    | true =>
      rw [hb] at hu; simp only [cond_true, Option.some.injEq] at hu; subst hu
      have := beq_nat hb; subst this
      rw [hv]; exact hrel
    | false => rw [hb] at hu; exact hf'.slot t' u hu
  · simp only [look] at hu
    cases hb : Nat.beq t' t with
    | true => have := beq_nat hb; subst this; exact hf.lt t' _ ht
    | false => rw [hb] at hu; exact hf'.lt t' u hu
/-- Rows to read are given up. -/
theorem run_close {x : Nat × SO} {c : Cfg} (hx : hget x.1 ro = none ∨ ∀ s, hget x.1 ro = some s → ¬ s.Live) (hr : Run P ro B f R c) : Run P (x :: ro) B f R c := by
  intro β w fr frs cs hf hfs hs
  refine hr β w fr frs cs hf hfs ⟨⟨hs.own, hs.apart, fun i s hi hl => ?_, hs.old, hs.os, hs.tape, hs.output, hs.size, hs.pin⟩, hs.fresh⟩
  refine hs.read i s ?_ hl
  obtain ⟨j, y⟩ := x
  simp only [hget]
  cases hb : Nat.beq i j with
  | true =>
    have := beq_nat hb; subst this
    rcases hx with hx | hx
    · simp only at hx; rw [hx] at hi; cases hi
    · exact absurd hl (hx s hi)
  | false => exact hi
end

theorem Sat.calledX {β : Env} {hp ro hpc roc : Hp} {B : Base} {nx : Nat} {w : World} (hs : Sat β hp ro B nx w) (hB : B.ok) {K : Kn} {M : Nat → Prop} (hK : ∀ b o, K b = some o → B.D b = some o) (hM : ∀ b, M b → K b ≠ none) (hro : ro = [] ∨ ∀ b, ¬ M b) {sg : List Nat} {ds es : List Prop}
    (hlt : allLt nx sg = true) (hcov : cover (hkeys hpc ++ hkeys roc) sg.length = true) (h2 : hpM nx sg hp hpc = some ds) (h2' : orM nx sg hp ro roc = some es) (h3 : dist nx sg (hkeys hpc ++ hkeys roc) = true) (hds : All ds) (hes : All es) :
    ∃ B1 : Base, B1.ok ∧ (∀ b o, K b = some o → B1.D b = some o) ∧ Sat (β.via nx sg) hpc roc B1 sg.length w ∧ ∀ (β2 : Env) (w' : World) (hz : Hp) (nz : Nat) (B1' : Base) (K' : Kn), (β.via nx sg).le β2 → Fz B1 K M B1' K' → Sat β2 hz roc B1' nz w' → sg.length ≤ nz →
      ∃ (β'' : Env) (B2 : Base), β.le β'' ∧ (∀ s v, Rel β2 s v → Rel β'' (ren nx sg s) v) ∧ Fz B K M B2 K' ∧ B2.pin = B.pin ∧ Sat β'' (renH' nx sg (hdrop' ((hkeys hpc).map (sig nx sg)) hp) hz) ro B2 (nx + (nz - sg.length)) w' := by
  -- the callee's ground: all that is not handed in
  let foot : Nat → Prop := fun b => ∃ i so s, hget i hpc = some so ∧ hget (sig nx sg i) hp = some s ∧ s.Live ∧ β (sig nx sg i) = some b
  have hD : ∀ (b : Nat), (∃ d : Option Obj, (foot b → d = none) ∧ (¬ foot b → d = w.heap[b]?)) := fun b => by
    by_cases h : foot b
    · exact ⟨none, fun _ => rfl, fun g => absurd h g⟩
    · exact ⟨_, fun g => absurd g h, fun _ => rfl⟩
  have ⟨D, hD⟩ : ∃ D : Nat → Option Obj, ∀ b, (foot b → D b = none) ∧ (¬ foot b → D b = w.heap[b]?) := ⟨fun b => Classical.choose (hD b), fun b => Classical.choose_spec (hD b)⟩
  have hDs : ∀ b o, D b = some o → ¬ foot b ∧ w.heap[b]? = some o := fun b o e => by
    by_cases h : foot b
    · rw [(hD b).1 h] at e; cases e
    · exact ⟨h, by rw [← (hD b).2 h]; exact e⟩
  have hlt' := allLt_spec hlt
  have footD : ∀ b, foot b → B.D b = none := by
    rintro b ⟨i, so, s, _, e1, e2, e3⟩
    obtain ⟨b', o, g1, g2, _⟩ := hs.own _ _ e1 e2
    rw [e3] at g1; injection g1 with g1; subst g1; exact g2
  have hinj : ∀ a b : Nat, sig nx sg a = sig nx sg b → a = b := by
    intro a b e
    rcases Nat.lt_or_ge a sg.length with g | g <;> rcases Nat.lt_or_ge b sg.length with g' | g'
    · by_cases h : a = b
      · exact h
      · exact absurd e (dist_spec h3 (cover_spec hcov a g) (cover_spec hcov b g') h)
    · obtain ⟨j, j1, j2⟩ := sig_lt (nx := nx) g
      have := hlt' _ (List.mem_of_getElem? j1)
      rw [sig_ge g'] at e; omega
    · obtain ⟨j, j1, j2⟩ := sig_lt (nx := nx) g'
      have := hlt' _ (List.mem_of_getElem? j1)
      rw [sig_ge g] at e; omega
    · rw [sig_ge g, sig_ge g'] at e; omega
  have lent : ∀ i so, hget i roc = some so → so.Live → ∃ b o, β (sig nx sg i) = some b ∧ w.heap[b]? = some o ∧ ¬ foot b ∧ ORel (β.via nx sg) so o := by
    intro i so hi hl
    obtain ⟨s, cs, e1, e2, e3⟩ := orM_spec h2' hes hi hl
    have hsl := eqO_live e2 e3 hl
    rcases e1 with e1 | e1
    · obtain ⟨b, o, g1, g2, g3, g4, g5⟩ := hs.own _ _ e1 hsl
      refine ⟨b, o, g1, g3, ?_, eqO_rel e2 e3 g4⟩
      rintro ⟨j, so', s', j0, j1, j2, j3⟩
      by_cases hij : sig nx sg i = sig nx sg j
      · have := hinj i j hij
        subst this
        -- one key on both sides: the list's keys are told apart by their place
        have : ∀ (a b : List Nat), dist nx sg (a ++ b) = true → ∀ x, x ∈ a → x ∈ b → False := by
          intro a b
          induction a with
          | nil => intro _ x hx; cases hx
          | cons y a ih =>
            intro hd x hx hxb
            simp only [List.cons_append, dist, Bool.and_eq_true, Bool.not_eq_true'] at hd
            cases hx with
            | head =>
              have : hasN (sig nx sg y) ((a ++ b).map (sig nx sg)) = true := hasN_iff.2 (List.mem_map_of_mem (List.mem_append_right _ hxb))
              rw [this] at hd; cases hd.1
            | tail _ hx => exact ih hd.2 x hx hxb
        exact this _ _ h3 i (hkeys_mem j0) (hkeys_mem hi)
      · exact hs.apart _ _ _ _ e1 j1 hsl j2 hij (g1.trans j3.symm)
    · obtain ⟨b, o, g1, g2, g3⟩ := hs.read _ _ e1 hsl
      refine ⟨b, o, g1, hs.old b o g2, ?_, eqO_rel e2 e3 g3⟩
      intro hf
      rw [footD b hf] at g2; cases g2
  have notM : ∀ b, B.D b = none → ¬ M b := fun b e hm => by
    have := hM b hm
    cases hk : K b with
    | none => exact this hk
    | some o => rw [hK b o hk] at e; cases e
  have KD : ∀ b o, K b = some o → D b = some o := fun b o e => by
    have h1 := hK b o e
    have hf : ¬ foot b := fun hf => by rw [footD b hf] at h1; cases h1
    rw [(hD b).2 hf]; exact hs.old b o h1
  refine ⟨⟨D, w, Env.nil, Kind.norm⟩, fun b o e => (Array.getElem?_eq_some_iff.1 (hDs b o e).2).1, KD, ?_, ?_⟩
  · refine ⟨⟨?_, ?_, ?_, fun b o e => (hDs b o e).2, rfl, rfl, rfl, Nat.le_refl _, Env.nil_le _⟩, ?_⟩
    · intro i s hi hl
      obtain ⟨s0, cs, e1, e2, e3⟩ := hpM_spec h2 hds hi hl
      have hsl := eqO_live e2 e3 hl
      obtain ⟨b, o, g1, g2, g3, g4, g5⟩ := hs.own _ _ e1 hsl
      exact ⟨b, o, g1, (hD b).1 ⟨i, s, s0, hi, e1, hsl, g1⟩, g3, eqO_rel e2 e3 g4, g5⟩
    · intro i j s t hi hj ls lt hne
      obtain ⟨s0, cs, e1, e2, e3⟩ := hpM_spec h2 hds hi ls
      obtain ⟨s1, cs', e1', e2', e3'⟩ := hpM_spec h2 hds hj lt
      exact hs.apart _ _ _ _ e1 e1' (eqO_live e2 e3 ls) (eqO_live e2' e3' lt) (fun e => hne (hinj _ _ e))
    · intro i s hi hl
      obtain ⟨b, o, g1, g2, g3, g4⟩ := lent i s hi hl
      exact ⟨b, o, g1, by show D b = _; rw [(hD b).2 g3]; exact g2, g4⟩
    · intro i hi
      show β (sig nx sg i) = none
      rw [sig_ge hi]; exact hs.fresh _ (by omega)
  · intro β2 w' hz nz B1' K' hle hF hs2 hnz
    have Dkeep : ∀ b o, D b = some o → ¬ M b → B1'.D b = some o := fun b o h hm => hF.keep b o h hm
    have BD : ∀ b o, B.D b = some o → D b = some o := fun b o hb => by
      rw [(hD b).2 (fun hf => by rw [footD b hf] at hb; cases hb)]; exact hs.old b o hb
    have hex : ∀ b, ∃ d : Option Obj, (M b → d = K' b) ∧ (¬ M b → ∀ o, B.D b = some o → d = some o) ∧ (¬ M b → B.D b = none → d = K' b) := fun b => by
      by_cases hm : M b
      · exact ⟨K' b, fun _ => rfl, fun h => absurd hm h, fun h => absurd hm h⟩
      · cases hb : B.D b with
        | none => exact ⟨K' b, fun _ => rfl, fun _ _ h => (by cases h), fun _ _ => rfl⟩
        | some o => exact ⟨some o, fun h => absurd h hm, fun _ o' h => h, fun _ h => (by cases h)⟩
    obtain ⟨D2, hD2⟩ : ∃ D2 : Nat → Option Obj, ∀ b, (M b → D2 b = K' b) ∧ (¬ M b → ∀ o, B.D b = some o → D2 b = some o) ∧ (¬ M b → B.D b = none → D2 b = K' b) := ⟨fun b => Classical.choose (hex b), fun b => Classical.choose_spec (hex b)⟩
    have D2K : ∀ b o, K' b = some o → D2 b = some o := fun b o h => by
      by_cases hm : M b
      · rw [(hD2 b).1 hm]; exact h
      · cases hb : B.D b with
        | none => rw [(hD2 b).2.2 hm hb]; exact h
        | some o' =>
          have h1 := Dkeep b o' (BD b o' hb) hm
          rw [hF.le b o h] at h1
          rw [(hD2 b).2.1 hm o' hb, h1]
    have D2le : ∀ b o, D2 b = some o → B1'.D b = some o := fun b o h => by
      by_cases hm : M b
      · rw [(hD2 b).1 hm] at h; exact hF.le b o h
      · cases hb : B.D b with
        | none => rw [(hD2 b).2.2 hm hb] at h; exact hF.le b o h
        | some o' =>
          rw [(hD2 b).2.1 hm o' hb] at h
          injection h with h; subst h
          exact Dkeep b _ (BD b _ hb) hm
    have FB : Fz B K M ⟨D2, B1'.w, B.pin, B.kd⟩ K' := by
      refine ⟨fun b o h => hF.ok b o (D2le b o h), rfl, Env.le_refl _, hF.os.trans hs.os, hF.tape.trans hs.tape, hF.output.trans hs.output, Nat.le_trans hs.size hF.size, fun b o h hm => (hD2 b).2.1 hm o h, D2K, hF.old, fun b o h => ?_⟩
      rcases hF.new b o h with h1 | h1
      · exact .inl h1
      · right
        cases hb : B.D b with
        | none => rfl
        | some o' =>
          have h1 : D b = none := h1
          rw [BD b o' hb] at h1; cases h1
    have hE : ∀ j, ∃ x : Option Nat × Nat, (∀ i, sig nx sg i = j → x = (β2 i, β2.room i)) ∧ ((∀ i, sig nx sg i ≠ j) → x = (β j, β.room j)) := by
      intro j
      by_cases h : ∃ i, sig nx sg i = j
      · obtain ⟨i, rfl⟩ := h
        exact ⟨(β2 i, β2.room i), fun i' e => by rw [hinj _ _ e], fun g => absurd rfl (g i)⟩
      · exact ⟨(β j, β.room j), fun i e => absurd ⟨i, e⟩ h, fun _ => rfl⟩
    obtain ⟨x, hx⟩ : ∃ x : Nat → Option Nat × Nat, ∀ j, (∀ i, sig nx sg i = j → x j = (β2 i, β2.room i)) ∧ ((∀ i, sig nx sg i ≠ j) → x j = (β j, β.room j)) := ⟨fun j => Classical.choose (hE j), fun j => Classical.choose_spec (hE j)⟩
    obtain ⟨β'', hβ⟩ : ∃ β'' : Env, β'' = ⟨fun j => (x j).1, fun j => (x j).2⟩ := ⟨_, rfl⟩
    have hat : ∀ i, β'' (sig nx sg i) = β2 i := fun i => by rw [hβ]; show (x _).1 = _; rw [(hx _).1 i rfl]
    have hroom : ∀ i, β''.room (sig nx sg i) = β2.room i := fun i => by rw [hβ]; show (x _).2 = _; rw [(hx _).1 i rfl]
    have hvia : β''.via nx sg = β2 := by
      have e1 : (β''.via nx sg).f = β2.f := funext hat
      have e2 : (β''.via nx sg).room = β2.room := funext hroom
      cases β2; cases hh : β''.via nx sg
      rw [hh] at e1 e2
      simp only at e1 e2
      rw [e1, e2]
    have hle' : β.le β'' := by
      have key : ∀ j b, β j = some b → β'' j = some b ∧ β''.room j = β.room j := by
        intro j b hj
        by_cases h : ∃ i, sig nx sg i = j
        · obtain ⟨i, rfl⟩ := h
          have hv : (β.via nx sg) i = some b := hj
          exact ⟨(hat i).trans (hle i b hv), (hroom i).trans (hle.r i b hv)⟩
        · have := (hx j).2 (fun i e => h ⟨i, e⟩)
          rw [hβ]
          refine ⟨?_, ?_⟩
          · show (x j).1 = _; rw [this]; exact hj
          · show (x j).2 = _; rw [this]
      exact ⟨fun j b h => (key j b h).1, fun j b h => (key j b h).2⟩
    refine ⟨β'', ⟨D2, B1'.w, B.pin, B.kd⟩, ?_⟩
    have hrel : ∀ s v, Rel β2 s v → Rel β'' (ren nx sg s) v := fun s v h => (ren_rel s v).2 (by rw [hvia]; exact h)
    have horel : ∀ s o, ORel β2 s o → ORel β'' (renO nx sg s id) o := fun s o h => renO_rel (by rw [hvia]; exact h)
    -- the blocks of the caller's that were not handed in
    have kept : ∀ j s, hget j (hdrop' ((hkeys hpc).map (sig nx sg)) hp) = some s → s.Live → ∃ b o, β j = some b ∧ D2 b = none ∧ B1'.D b = some o ∧ w'.heap[b]? = some o ∧ ORel β s o ∧ Fit (β.room j) o ∧ hget j hp = some s := by
      intro j s hj hl
      rw [hdrop_get] at hj
      split at hj
      · cases hj
      rename_i hnk
      obtain ⟨b, o, g1, g2, g3, g4, g5⟩ := hs.own _ _ hj hl
      have hnf : ¬ foot b := by
        rintro ⟨i, so, s', i0, i1, i2, i3⟩
        refine hs.apart _ _ _ _ hj i1 hl i2 ?_ (g1.trans i3.symm)
        intro e; exact hnk (e ▸ List.mem_map_of_mem (hkeys_mem i0))
      have hDb : D b = some o := by rw [(hD b).2 hnf]; exact g3
      have hm := notM b g2
      have hD1 := Dkeep b o hDb hm
      refine ⟨b, o, g1, ?_, hD1, hs2.old b o hD1, g4, g5, hj⟩
      rw [(hD2 b).2.2 hm g2]
      cases hk : K' b with
      | none => rfl
      | some o' =>
        rcases hF.new b o' hk with h1 | h1
        · cases hk0 : K b with
          | none => exact absurd hk0 h1
          | some o2 => rw [hK b o2 hk0] at g2; cases g2
        · have h1 : D b = none := h1
          rw [hDb] at h1; cases h1
    -- what the callee hands back
    have back : ∀ j s, s.Live → (∃ i s0, j = sig nx sg i ∧ i ∈ hkeys hz ∧ (i, s0) ∈ hz ∧ s = renO nx sg s0 id ∧ ((∀ a b, a ∈ hkeys hz → b ∈ hkeys hz → sig nx sg a = sig nx sg b → a = b) → hget i hz = some s0)) →
        ∃ i s0 b o, j = sig nx sg i ∧ hget i hz = some s0 ∧ s0.Live ∧ β2 i = some b ∧ B1'.D b = none ∧ D2 b = none ∧ w'.heap[b]? = some o ∧ ORel β2 s0 o ∧ Fit (β2.room i) o ∧ s = renO nx sg s0 id := by
      rintro j s hl ⟨i, s0, e1, _, _, e4, e5⟩
      have e5 := e5 (fun a b _ _ e => hinj a b e)
      have hl0 : s0.Live := renO_live (e4 ▸ hl)
      obtain ⟨b, o, g1, g2, g3, g4, g5⟩ := hs2.own _ _ e5 hl0
      refine ⟨i, s0, b, o, e1, e5, hl0, g1, g2, ?_, g3, g4, g5, e4⟩
      cases hb : D2 b with
      | none => rfl
      | some o' => rw [D2le b o' hb] at g2; cases g2
    refine ⟨hle', hrel, FB, rfl, ⟨?_, ?_, ?_, ?_, ?_, ?_, ?_, ?_, ?_⟩, ?_⟩
    · intro j s hj hl
      rcases renH_get hj with h | h
      · obtain ⟨i, s0, b, o, e1, e2, _, g1, g2, g3, g4, g5, g6, rfl⟩ := back j s hl h
        exact ⟨b, o, by rw [e1]; exact (hat i).trans g1, g3, g4, horel _ _ g5, by rw [e1, hroom]; exact g6⟩
      · obtain ⟨b, o, g1, g2, _, g4, g5, g6, _⟩ := kept j s h hl
        exact ⟨b, o, hle' _ _ g1, g2, g4, ORel.mono hle' _ _ g5, by rw [hle'.r _ _ g1]; exact g6⟩
    · intro j k s t hj hk ls lt hne
      have mix : ∀ j k s t, s.Live → t.Live → (∃ i s0, j = sig nx sg i ∧ i ∈ hkeys hz ∧ (i, s0) ∈ hz ∧ s = renO nx sg s0 id ∧ ((∀ a b, a ∈ hkeys hz → b ∈ hkeys hz → sig nx sg a = sig nx sg b → a = b) → hget i hz = some s0)) →
          hget k (hdrop' ((hkeys hpc).map (sig nx sg)) hp) = some t → β'' j ≠ β'' k := by
        intro j k s t ls lt h h'
        obtain ⟨i, s0, b, o, e1, e2, _, g1, g2, _⟩ := back j s ls h
        obtain ⟨b', o', g1', _, g3', _⟩ := kept k t h' lt
        rw [e1, hat, g1, hle' _ _ g1']
        intro e; injection e with e; subst e; rw [g2] at g3'; cases g3'
      rcases renH_get hj with h | h <;> rcases renH_get hk with h' | h'
      · obtain ⟨i, s0, b, o, e1, e2, l1, g1, g2, g3, g4, g5, g6, rfl⟩ := back j s ls h
        obtain ⟨i', s0', b', o', e1', e2', l2, g1', g2', _⟩ := back k t lt h'
        rw [e1, e1', hat, hat]
        exact hs2.apart _ _ _ _ e2 e2' l1 l2 (fun e => hne (by rw [e1, e1', e]))
      · exact mix j k s t ls lt h h'
      · exact Ne.symm (mix k j t s lt ls h' h)
      · obtain ⟨b, o, g1, _, _, _, _, _, g7⟩ := kept j s h ls
        obtain ⟨b', o', g1', _, _, _, _, _, g7'⟩ := kept k t h' lt
        rw [hle' _ _ g1, hle' _ _ g1', ← g1, ← g1']
        exact hs.apart _ _ _ _ g7 g7' ls lt hne
    · intro i s hi hl
      rcases hro with rfl | hro
      · exact (none_ne hi).elim
      obtain ⟨b, o, g1, g2, g3⟩ := hs.read i s hi hl
      exact ⟨b, o, hle' _ _ g1, (hD2 b).2.1 (hro b) o g2, ORel.mono hle' _ _ g3⟩
    · intro b o hb
      exact hs2.old b o (D2le b o hb)
    · exact hs2.os
    · exact hs2.tape
    · exact hs2.output
    · exact hs2.size
    · exact Env.le_trans hs.pin hle'
    · intro i hi
      have : sig nx sg (sg.length + (i - nx)) = i := by rw [sig_ge (by omega)]; omega
      rw [← this, hat]
      exact hs2.fresh _ (by omega)

section
variable {ι : Type}
def HEndX (β : Env) (B : Base) (K : Kn) (M : Nat → Prop) (ro : Hp) (ψ : ι → Kn → Prop) (out : ι → Out) (e : Ending) (w' : World) : Prop :=
  ∃ z β' u B' K', ψ z K' ∧ β.le β' ∧ e = .returned u ∧ Rel β' (out z).r u ∧ Fz B K M B' K' ∧ Sat β' (out z).hp ro B' (out z).nx w'
/-- A contract that may leave blocks behind that are written no more (and may change those that M names). -/
def HCX (P : Program) (K : Kn) (M : Nat → Prop) (f : FuncId) (xs : List SV) (hp ro : Hp) (nx : Nat) (ψ : ι → Kn → Prop) (out : ι → Out) : Prop :=
  ∀ (B : Base) (β : Env) (w : World) (vs : List Value), B.ok → (∀ b o, K b = some o → B.D b = some o) → RelL β xs vs → Sat β hp ro B nx w → Calls P f vs.toArray w (HEndX β B K M ro ψ out)
theorem hcx_of_run {P : Program} {K : Kn} {M : Nat → Prop} {f : FuncId} {fn : Func} {c : Code} {xs : List SV} {hp ro : Hp} {nx : Nat} {ψ : ι → Kn → Prop} {out : ι → Out} (hfn : P.funcs[f]? = some fn) (hb : fn.body = some c)
    (h : ∀ B : Base, B.ok → (∀ b o, K b = some o → B.D b = some o) → PinTo B nx → Run P ro B f (HEndX B.pin B K M ro ψ out) ⟨⟨fid f, xs.length + (fn.ntmps - xs.length), enumFrom 0 xs, [.code c]⟩, [], hp, nx⟩) : HCX P K M f xs hp ro nx ψ out := by
  intro B β w vs hB hK hl hs
  have hs1 : Sat β hp ro ⟨B.D, B.w, β, Kind.norm⟩ nx w := ⟨⟨hs.own, hs.apart, hs.read, hs.old, hs.os, hs.tape, hs.output, hs.size, Env.le_refl _⟩, hs.fresh⟩
  refine (calls_of_run hfn hb hl hs1 (h ⟨B.D, B.w, β, Kind.norm⟩ hB hK ⟨hs.fresh, rfl⟩) rfl).mono ?_
  rintro e w' ⟨z, β', u, B', K', h1, h2, h3, h4, h5, h6⟩
  refine ⟨z, β', u, ⟨B'.D, B'.w, B.pin, B.kd⟩, K', h1, h2, h3, h4, ⟨h5.ok, rfl, Env.le_refl _, h5.os, h5.tape, h5.output, h5.size, h5.keep, h5.le, h5.old, h5.new⟩, ⟨h6.own, h6.apart, h6.read, h6.old, h6.os, h6.tape, h6.output, h6.size, Env.le_trans hs.pin h2⟩, h6.fresh⟩
/-- The same with another name for its answers. -/
theorem HCX.to {κ : Type} {P : Program} {K : Kn} {M : Nat → Prop} {f : FuncId} {xs : List SV} {hp ro : Hp} {nx : Nat} {ψ : ι → Kn → Prop} {out : ι → Out} {ψ' : κ → Kn → Prop} {out' : κ → Out} (h : HCX P K M f xs hp ro nx ψ out) (g : ∀ z K', ψ z K' → ∃ y, ψ' y K' ∧ out' y = out z) : HCX P K M f xs hp ro nx ψ' out' := by
  intro B β w vs h1 h2 h3 h4
  refine (h B β w vs h1 h2 h3 h4).mono ?_
  rintro e w' ⟨z, β', u, B', K', hψ, h⟩
  obtain ⟨y, h6, h7⟩ := g z K' hψ
  exact ⟨y, β', u, B', K', h6, by rw [h7]; exact h⟩
section
variable {P : Program} {ro : Hp} {B B' : Base} {f : FuncId} {K K' : Kn} {M : Nat → Prop} {ψ : ι → Kn → Prop} {out : ι → Out}
theorem run_retF (hF : Fz B K M B' K') {np : Nat} (hpin : PinTo B' np) (z : ι) (hψ : ψ z K') (sg : List Nat) {n : Nat} {sl : Slots} {td : List SI} {hp : Hp} {nx : Nat} {cs ds : List Prop} {v : SV} (hl : sg.length = (out z).nx) (hv : resV P f sl hp ro = some (cs, v)) (hc : conj cs)
    (hk : retC nx sg np ro hp (out z) v = some ds) (hds : conj ds) : Run P ro B' f (HEndX B.pin B K M ro ψ out) ⟨⟨fid f, n, sl, .code .ret :: td⟩, [], hp, nx⟩ := by
  unfold retC at hk
  cases hb : (dist nx sg (hkeys (out z).hp) && idTo nx sg np) with
  | false => rw [hb] at hk; cases hk
  | true =>
  rw [hb] at hk; simp only [cond_true] at hk
  simp only [Bool.and_eq_true] at hb
  split at hk <;> first | exact (none_ne hk).elim | skip
  rename_i a b c e1 e2 e3
  injection hk with hk; subst hk
  obtain ⟨h1, h2⟩ := conj_append hds
  obtain ⟨h2, h3⟩ := conj_append h2
  refine run_retK hv hc (fun β w u hs hu => ?_) hpin.k
  obtain ⟨z', β', u', g1, g2, g3, g4, g5⟩ := hend_of (ψ := fun y => y = z) hpin z rfl sg hl e1 e2 hb.1 e3 hb.2 h1 h2 h3 β w u hs hu
  subst g1
  exact ⟨z', β', u', B', K', hψ, Env.le_trans hF.pin g2, g3, g4, hF, g5⟩
end
section
variable {P : Program} {ro : Hp} {B : Base} {f : FuncId} {R : Ending → World → Prop}
/-- A call by a contract that leaves blocks behind. -/
theorem run_callX {K : Kn} {M : Nat → Prop} {g : Nat} {xs : List SV} {hpc roc : Hp} {nxc : Nat} {ψ : ι → Kn → Prop} {out : ι → Out} (hHC : HCX P K M g xs hpc roc nxc ψ out) (hP : Named P) (hB : B.ok) (hK : ∀ b o, K b = some o → B.D b = some o) (hM : ∀ b, M b → K b ≠ none) (hro : ro = [] ∨ ∀ b, ¬ M b) (sg : List Nat)
    {fn : FId} {n : Nat} {sl : Slots} {ops : Array Oper} {i : Nat} {o : Oper} {cur : List Oper} {tl : Option (List Nat)} {k : List SI} {rest : List SFr} {hp : Hp} {nx : Nat} {cs0 cs1 : List Prop} {gf : Func} {gb : Code} {as : List SV}
    (hgd : guardIn ops sl o = some .run) (hcal : callee P sl o.op = some (cs0, g, gf, gb, as)) (hl : sg.length = nxc) (hk : callC nx sg nxc xs as hpc roc hp ro = some cs1) (hc0 : conj cs0) (hc1 : conj cs1)
    (h : ∀ z B' K', ψ z K' → Fz B K M B' K' → B'.pin = B.pin → nxc ≤ (out z).nx ∧ ∃ sl' hp' nx', put o.dst (ren nx sg (out z).r) n sl = some sl' ∧ callH nx sg ((hkeys hpc).map (sig nx sg)) (out z).hp hp = some hp' ∧ natF (nx + ((out z).nx - nxc)) some = some nx' ∧
      Run P ro B' f R ⟨⟨fn, n, sl', .reg ops (i + 1) cur tl :: k⟩, rest, hp', nx'⟩) :
    Run P ro B f R ⟨⟨fn, n, sl, .reg ops i (o :: cur) tl :: k⟩, rest, hp, nx⟩ := by
  unfold callC at hk
  cases hb : (cover (hkeys hpc ++ hkeys roc) nxc && allLt nx sg && dist nx sg (hkeys hpc ++ hkeys roc)) with
  | false => rw [hb] at hk; cases hk
  | true =>
  rw [hb] at hk; simp only [cond_true] at hk
  simp only [Bool.and_eq_true] at hb
  split at hk <;> first | exact (none_ne hk).elim | skip
  rename_i a b c hargs e2 e3
  injection hk with hk; subst hk
  obtain ⟨h1, h2⟩ := conj_append hc1
  obtain ⟨h2, h3⟩ := conj_append h2
  subst hl
  intro β w fr frs cs hf hfs hs hcs
  have hrok := hf.ok _ (List.mem_cons_self ..)
  obtain ⟨ho, hok', hit⟩ := reg_ok hrok
  have hlt' : ∀ t v, look t sl = some v → t < fr.tmps.size := by rw [hf.size]; exact hf.lt
  have hw := guard_rel hgd hf.size hf.slot hlt'
  have hrho : Rho β sl (Act.eval ⟨fr.tmps, fr.defers⟩) := ⟨hf.slot, fun _ => rfl, fun _ => rfl⟩
  obtain ⟨hfn, hbd, vs, hvl, hrun⟩ := callee_run (w := w) hP hrho hcal (all_conj hc0)
  obtain ⟨B1, hB1, hK1, hs1, hback⟩ := hs.calledX hB hK hM hro hb.1.2 hb.1.1 e2 e3 hb.2 (all_conj h2) (all_conj h3)
  rw [renFL_eq] at hargs
  have hxs : RelL (β.via nx sg) xs vs := (renL_rel _ _).1 (eqL_less _ _ _ hargs (all_conj h1) β vs hvl)
  have hcall := hHC B1 (β.via nx sg) w vs hB1 hK1 hxs hs1
  have hst := op_enter (P := P) (b := fr) (a := ⟨fr.tmps, fr.defers⟩) (k := k.map SI.item) (cs := frs ++ cs) (w := w) (ops := ops) (i := i) (rest := List.range' (i + 1) cur.length ++ tl.getD []) ho hw hrun
  obtain ⟨e, w', fr', ⟨z, β2, u, B1', K', hz, hle2, rfl, hu, hF1, hs2⟩, hco, _, hlv⟩ := hcall (fr.atR ⟨fr.tmps, fr.defers⟩ (.inRegion ops (i :: (List.range' (i + 1) cur.length ++ tl.getD [])) :: k.map SI.item) :: (frs ++ cs))
  -- the number of names used is told by any base: take the one that comes
  have hnz : sg.length ≤ (out z).nx := by
    obtain ⟨β'', B2, _, _, gF, gp, _⟩ : ∃ (β'' : Env) (B2 : Base), True ∧ True ∧ Fz B K M B2 K' ∧ B2.pin = B.pin ∧ True := by
      obtain ⟨β'', B2, g1, g2, g3, g4, g5⟩ := hback β2 w' [] (max sg.length (out z).nx) B1' K' hle2 hF1 ⟨⟨fun _ _ h => (none_ne h).elim, fun _ _ _ _ h => (none_ne h).elim, hs2.read, hs2.old, hs2.os, hs2.tape, hs2.output, hs2.size, hs2.pin⟩, fun i hi => hs2.fresh i (by omega)⟩ (Nat.le_max_left ..)
      exact ⟨β'', B2, trivial, trivial, g3, g4, trivial⟩
    exact (h z B2 K' hz gF gp).1
  obtain ⟨β'', B2, g1, g2, g3, g4, g5⟩ := hback β2 w' _ _ B1' K' hle2 hF1 hs2 hnz
  obtain ⟨_, sl', hp', nx', q1, q2, q3, hr⟩ := h z B2 K' hz g3 g4
  have q2 := callH_eq q2
  rw [natF_eq] at q3
  injection q3 with q3
  subst q2 q3
  obtain ⟨p1, p2, p3⟩ := put_spec (β := β'') q1 hf.size (fun t v e => Rel.mono g1 _ _ (hf.slot t v e)) hf.lt (g2 _ _ hu)
  obtain ⟨e', w2, fr2, hR, hc, r⟩ := hr β'' w' (fr.atR ⟨(Act.put ⟨fr.tmps, fr.defers⟩ o.dst u).tmps, fr.defers⟩ ((SI.reg ops (i + 1) cur tl :: k).map SI.item)) frs cs (FrRel.of hf.fn hf.rnd hf.kind (hf.defers.mono g1) p1 p3 p2 (by
    intro x hx
    cases hx with
    | head => exact hok'
    | tail _ hm => exact hf.ok x (List.mem_cons_of_mem _ hm))) (hfs.mono g1) g5 (by rw [g3.kd]; exact hcs)
  rw [g3.kd] at hc r
  refine ⟨e', w2, fr2, hR, .of_steps ?_ hc, r⟩
  have := hf.at
  rw [this, ← put_eq]
  simp only [List.map_cons, hit]
  refine (Steps.one hst).trans (Steps.trans hco (.one ?_))
  have hfin : (fr.atR ⟨fr.tmps, fr.defers⟩ (.inRegion ops (i :: (List.range' (i + 1) cur.length ++ tl.getD [])) :: k.map SI.item)).finish u = fr.atR (Act.put ⟨fr.tmps, fr.defers⟩ o.dst u) (.inRegion ops (List.range' (i + 1) cur.length ++ tl.getD []) :: k.map SI.item) := by rw [Frame.finish_atR, ho]; rfl
  have hsl := step_leave_returned (c := fr.atR ⟨fr.tmps, fr.defers⟩ (.inRegion ops (i :: (List.range' (i + 1) cur.length ++ tl.getD [])) :: k.map SI.item)) (cs := frs ++ cs) hlv
  rw [hfin] at hsl
  exact hsl
end
end
end Sx
end
section
namespace Sx
open Go
def keyIs (q : IntKind) (a : Int) (x : MapEntry) : Bool := match x.key with
  | .int q' b => keq q' q && decide (b = a)
  | _ => false
def vIntOf (v : Value) : Int := match v with
  | .int _ c => c
  | _ => 0
def hasE (q : IntKind) (es : Array MapEntry) (a : Int) : Bool := es.toList.any (keyIs q a)
def lkE (q : IntKind) (es : Array MapEntry) (a : Int) : Int := match es.toList.find? (keyIs q a) with
  | some x => vIntOf x.val
  | none => 0
def entA (es : Array MapEntry) (clock : Nat) (q r : IntKind) (a : Int) : Array MapEntry := bif hasE q es a then es else es.push ⟨.int q a, .int r 0, clock⟩
def entC (es : Array MapEntry) (clock : Nat) (q : IntKind) (a : Int) : Nat := bif hasE q es a then clock else clock + 1
def entS (es : Array MapEntry) (clock : Nat) (q : IntKind) (a : Int) : Nat := match es.toList.find? (keyIs q a) with
  | some x => x.born
  | none => clock
def stoI (es : Array MapEntry) (n : Int) : Option Nat := es.findIdx? fun e => (e.born : Int) == n
def stoA (es : Array MapEntry) (n : Int) (v : Value) : Array MapEntry := match stoI es n with
  | some i => es.modify i fun e => { e with val := v }
  | none => es
/-- Integers at integers. -/
def WFm (q r : IntKind) (es : Array MapEntry) (clock : Nat) : Prop := MapKept.Stamped es clock ∧ ∀ x ∈ es.toList, ∃ a c, x.key = .int q a ∧ x.val = .int r c
theorem keyIs_iff {q : IntKind} {a : Int} {x : MapEntry} : keyIs q a x = true ↔ x.key = .int q a := by
  unfold keyIs
  constructor
  · intro h
    split at h
    · rename_i q' b e
      rw [Bool.and_eq_true, decide_eq_true_iff] at h
      rw [e, keq_spec h.1, h.2]
    · cases h
  · intro h
    rw [h]
    simp only [decide_true, Bool.and_true]
    cases q <;> rfl
theorem hasE_iff {q : IntKind} {es : Array MapEntry} {a : Int} : hasE q es a = true ↔ ∃ x ∈ es.toList, x.key = .int q a := by
  unfold hasE
  rw [List.any_eq_true]
  exact ⟨fun ⟨x, h1, h2⟩ => ⟨x, h1, keyIs_iff.1 h2⟩, fun ⟨x, h1, h2⟩ => ⟨x, h1, keyIs_iff.2 h2⟩⟩
theorem find_key {q : IntKind} {es : Array MapEntry} {clock : Nat} (h : MapKept.Stamped es clock) {a : Int} {x : MapEntry} (hx : x ∈ es.toList) (hk : x.key = .int q a) : es.toList.find? (keyIs q a) = some x := by
  cases hf : es.toList.find? (keyIs q a) with
  | none =>
    have := List.find?_eq_none.1 hf x hx
    exact absurd (keyIs_iff.2 hk) this
  | some y =>
    have h1 := keyIs_iff.1 (List.find?_some hf)
    have h2 := List.mem_of_find?_eq_some hf
    obtain ⟨_, _, hp⟩ := (MapKept.stamped_iff _ _).1 h
    obtain ⟨i, hi, rfl⟩ := List.mem_iff_getElem.1 hx
    obtain ⟨j, hj, rfl⟩ := List.mem_iff_getElem.1 h2
    rcases Nat.lt_trichotomy i j with g | g | g
    · exact absurd (hk.trans h1.symm) (List.pairwise_iff_getElem.1 hp i j hi hj g)
    · subst g; rfl
    · exact absurd (h1.trans hk.symm) (List.pairwise_iff_getElem.1 hp j i hj hi g)
theorem lkE_of {q r : IntKind} {es : Array MapEntry} {clock : Nat} (h : MapKept.Stamped es clock) {a c : Int} {x : MapEntry} (hx : x ∈ es.toList) (hk : x.key = .int q a) (hv : x.val = .int r c) : lkE q es a = c := by
  unfold lkE
  rw [find_key h hx hk]
  simp [hv, vIntOf]
theorem WFm.rel {q r : IntKind} {es : Array MapEntry} {clock : Nat} (h : WFm q r es clock) (β : Env) : MRel β q (hasE q es) (.ints r (lkE q es)) es clock := by
  refine ⟨h.1, fun x hx => ?_, fun a ha => hasE_iff.1 ha⟩
  obtain ⟨a, c, h1, h2⟩ := h.2 x hx
  exact ⟨a, h1, hasE_iff.2 ⟨x, hx, h1⟩, by show x.val = .int r (lkE q es a); rw [lkE_of h.1 hx h1 h2, h2]⟩
theorem MRel.wf {β : Env} {q r : IntKind} {hh : Int → Bool} {v : Int → Int} {es : Array MapEntry} {clock : Nat} (h : MRel β q hh (.ints r v) es clock) : WFm q r es clock ∧ (∀ a, hasE q es a = hh a) ∧ ∀ a, hh a = true → lkE q es a = v a := by
  have hv : ∀ x ∈ es.toList, ∃ a, x.key = .int q a ∧ hh a = true ∧ x.val = .int r (v a) := fun x hx => h.ent x hx
  refine ⟨⟨h.st, fun x hx => ?_⟩, fun a => ?_, fun a ha => ?_⟩
  · obtain ⟨a, h1, _, h3⟩ := hv x hx
    exact ⟨a, _, h1, h3⟩
  · rw [Bool.eq_iff_iff, hasE_iff]
    constructor
    · rintro ⟨x, hx, hk⟩
      obtain ⟨a', h1, h2, _⟩ := hv x hx
      rw [hk] at h1; injection h1 with _ h1; rw [h1]; exact h2
    · exact h.has a
  · obtain ⟨x, hx, hk⟩ := h.has a ha
    obtain ⟨a', h1, _, h3⟩ := hv x hx
    rw [hk] at h1; injection h1 with _ h1; subst h1
    exact lkE_of h.st hx hk h3
theorem hasE_false {q : IntKind} {es : Array MapEntry} {a : Int} (h : hasE q es a = false) : ∀ x ∈ es.toList, x.key ≠ .int q a := fun x hx hk => by
  have := hasE_iff.2 ⟨x, hx, hk⟩
  rw [h] at this; cases this
theorem WFm.ent {q r : IntKind} {es : Array MapEntry} {clock : Nat} (h : WFm q r es clock) (a : Int) : WFm q r (entA es clock q r a) (entC es clock q a) := by
  unfold entA entC
  cases ha : hasE q es a with
  | true => exact h
  | false =>
    refine ⟨MapKept.stamped_push h.1 (hasE_false ha), fun x hx => ?_⟩
    simp only [cond_false, Array.toList_push, List.mem_append, List.mem_singleton] at hx
    rcases hx with hx | rfl
    · exact h.2 x hx
    · exact ⟨a, 0, rfl, rfl⟩
def meArg (P : Program) (sl : Slots) (op : Op) : Option (List Prop × Nat × IntKind × Int × IntKind) :=
  match op with
  | .mapEntry t m k => match evs sl m, evs sl k, mapIn P t with
    | some (cs, .mp i), some (ds, .int q a), some (q', et, some r) => match zeroIn P et with
      | some (.int r' 0) => bif keq q q' && keq r r' then some (cs ++ ds, i, q', a, r) else none
      | _ => none
    | _, _, _ => none
  | _ => none
def esArg (sl : Slots) (op : Op) : Option (List Prop × Nat × Int × IntKind × Int) :=
  match op with
  | .entryStore _ m s x => match evs sl m, evs sl s, evs sl x with
    | some (cs, .mp i), some (ds, .int _ n), some (es, .int r c) => some (cs ++ ds ++ es, i, n, r, c)
    | _, _, _ => none
  | _ => none
def meO (q r : IntKind) (a : Int) : SO → Option (SO × SV)
  | .mape q' _ (.ints r' _) es clock => bif keq q q' && keq r r' then some (.mape q (hasE q (entA es clock q r a)) (.ints r (lkE q (entA es clock q r a))) (entA es clock q r a) (entC es clock q a), .tup [.int r (lkE q es a), .int .i64 (entS es clock q a)]) else none
  | _ => none
def esO (n : Int) (r : IntKind) (c : Int) : SO → Option (Prop × SO)
  | .mape q _ (.ints r' _) es clock => bif keq r r' then some ((stoI es n).isSome = true, .mape q (hasE q (stoA es n (.int r c))) (.ints r (lkE q (stoA es n (.int r c)))) (stoA es n (.int r c)) clock) else none
  | _ => none
def isEnt : Op → Bool
  | .mapEntry .. => true
  | .entryStore .. => true
  | _ => false
def dopQ (P : Program) (M : Mode) (ro : Hp) (ops : Array Oper) (idn : Nat) (o : Oper) (sl : Slots) (hp : Hp) : Option (List Prop × DR) :=
  match isEnt o.op with
  | false => dop P M ro ops idn o sl hp
  | true => match thin (opSlots ops o) sl with
    | none => none
    | some slv => match guardIn ops slv o with
      | some .run => match meArg P slv o.op with
        | some (cs, i, q, a, r) => match hget i hp with
          | some so => match meO q r a so with
            | some (so', v) => some (cs, ⟨opSlots ops o, o.dst, [i], [(i, so')], [], v⟩)
            | none => none
          | none => none
        | none => match esArg slv o.op with
          | some (cs, i, n, r, c) => match hget i hp with
            | some so => match esO n r c so with
              | some (p, so') => some (p :: cs, ⟨opSlots ops o, o.dst, [i], [(i, so')], [], .und⟩)
              | none => none
            | none => none
          | none => none
      | _ => none
section
variable {P : Program} {M : Mode} {ro : Hp} {ops : Array Oper} {T : List (List Nat)} {n nx K m b : Nat} {Sl : Nat → Slots} {Hs : Nat → Hp} {dr : Nat → DR} {B : Base}
variable {f : FuncId} {R : Ending → World → Prop}
end
end Sx
end
section
namespace Sx
open Go Go.ChangeShapes Go.WideShapes
section
variable {H : Type} {enc : TypeId × Value → H} {P : Program} {w : World}
/-- What is known at the start: all that lies there. -/
abbrev K0 (w : World) : Kn := fun b => w.heap[b]?
end
/-- A contract that leaves nothing behind, at the law's own call. -/
theorem hendX_below {w : World} {β : Env} {ro : Hp} {e : Ending} {w' : World} {n : Nat} {ψ : Unit → Kn → Prop} (h : HEndX β (Base.all w) (K0 w) M0 ro ψ (fun _ => ⟨.tt, [], n⟩) e w') : e = .returned (.bool true) ∧ RowKit.Below w.heap.size w w' := by
  obtain ⟨z, β', u, B', K', _, _, rfl, hu, hF, hs⟩ := h
  have hu : u = .bool true := hu
  subst hu
  have hs0 : Sat β' [] [] B' n w' := ⟨⟨hs.own, hs.apart, fun _ _ h => (none_ne h).elim, hs.old, hs.os, hs.tape, hs.output, hs.size, hs.pin⟩, hs.fresh⟩
  exact ⟨rfl, (hF.sat hs0).below_all⟩
end Sx
end
section
namespace Sx
open Go Go.ChangeShapes Go.WideShapes
theorem sat_open {K : Kn} {B : Base} (hK : ∀ b o, K b = some o → B.D b = some o) {v : Value} {m sz : Nat} {g : Nat → Nat → SV} (hF : Froz K v m sz g) (hsz : 0 < sz) {β : Env} {hp ro : Hp} {nx : Nat} {w : World} (hs : Sat β hp ro B nx w) :
    ∃ off, ∃ β' : Env, β.le β' ∧ Rel β' (.sq nx off 0 sz m .no) v ∧ Sat β' hp ((nx, .row off m m sz g anyTy) :: ro) B (nx + 1) w := by
  obtain ⟨base, room, e1, e2, e3⟩ := hF
  rcases Nat.eq_zero_or_pos m with h0 | h0
  · subst h0
    refine ⟨0, β, Env.le_refl _, ⟨base, room, e1, e2, fun h => (by cases h), fun h => (by cases h), fun h => absurd h (Nat.lt_irrefl _)⟩, ⟨⟨hs.own, hs.apart, fun i s hi hl => ?_, hs.old, hs.os, hs.tape, hs.output, hs.size, hs.pin⟩, fun i hi => hs.fresh i (by show nx ≤ i; omega)⟩⟩
    simp only [hget] at hi
    cases hb : Nat.beq i nx with
    | true => rw [hb] at hi; simp only [cond_true, Option.some.injEq] at hi; subst hi; exact absurd hl (Nat.lt_irrefl 0)
    | false => rw [hb] at hi; exact hs.read i s hi hl
  · obtain ⟨h4, b, o, c, tt, fz, h5, h6, h7⟩ := e3 h0
    have hfr := hs.fresh nx (Nat.le_refl _)
    have hle := Env.le_add (b := b) (r := 0) hfr
    have hne : ∀ i b', β i = some b' → i ≠ nx := by
      intro i b' h e; subst e; rw [hfr] at h; cases h
    refine ⟨o, β.add nx b 0, hle, ⟨base, room, e1, e2, fun h => (by cases h), fun h => (by cases h), fun _ => ⟨h4, b, Env.add_same _ _ _ _, by rw [h5]; simp, fun h => (by cases h)⟩⟩, ⟨⟨fun i s hi hl => ?_, fun i j s t hi hj hl ht hij => ?_, fun i s hi hl => ?_, hs.old, hs.os, hs.tape, hs.output, hs.size, Env.le_trans hs.pin hle⟩, fun i hi => ?_⟩⟩
    · obtain ⟨b', o', h1, h2, h3, h4, h5⟩ := hs.own i s hi hl
      have hn := hne i b' h1
      exact ⟨b', o', (Env.add_other _ _ _ hn).trans h1, h2, h3, ORel.mono hle _ _ h4, by rw [Env.add_room_other _ _ _ hn]; exact h5⟩
    · obtain ⟨b1, o1, h1, _⟩ := hs.own i s hi hl
      obtain ⟨b2, o2, h2, _⟩ := hs.own j t hj ht
      rw [Env.add_other _ _ _ (hne i b1 h1), Env.add_other _ _ _ (hne j b2 h2)]
      exact hs.apart i j s t hi hj hl ht hij
    · simp only [hget] at hi
      cases hb : Nat.beq i nx with
      | true =>
        rw [hb] at hi; simp only [cond_true, Option.some.injEq] at hi; subst hi
        have := beq_nat hb; subst this
        refine ⟨b, _, Env.add_same _ _ _ _, hK _ _ h6, c, fz, tt, .inl rfl, rfl, Nat.le_refl _, ?_, fun i k hi hk => ?_⟩
        · obtain ⟨u, hu, _⟩ := h7 (m - 1) (sz - 1) (by omega) (by omega)
          have := (Array.getElem?_eq_some_iff.1 hu).1
          have h8 : (m - 1) * sz + sz = m * sz := by
            obtain ⟨q, rfl⟩ : ∃ q, m = q + 1 := ⟨m - 1, by omega⟩
            simp [Nat.succ_mul]
          omega
        · obtain ⟨u, hu, hr⟩ := h7 i k hi hk
          exact ⟨u, hu, Rel.mono (Env.nil_le _) _ _ hr⟩
      | false =>
        rw [hb] at hi
        obtain ⟨b', o', h1, h2, h3⟩ := hs.read i s hi hl
        exact ⟨b', o', (Env.add_other _ _ _ (hne i b' h1)).trans h1, h2, ORel.mono hle _ _ h3⟩
    · rw [Env.add_other _ _ _ (by omega)]; exact hs.fresh i (by show nx ≤ i; omega)
end Sx
end
section
namespace Sx
open Go
section
variable {P : Program} {ro : Hp} {B : Base} {f : FuncId} {R : Ending → World → Prop}
/-- Whether a slice is nil. -/
def isNilS : Value → Bool
  | .slice none _ _ => true
  | _ => false
def mclrArg (P : Program) (sl : Slots) : Op → Option (List Prop × Nat)
  | .call { callee := .builtin .clear, args := as, argTypes := ts } => match ts.toList, evList sl as.toList with
    | [t], some (cs, [.mp i]) => match P.underlying t with
      | some (.map _ _) => some (cs, i)
      | _ => none
    | _, _ => none
  | _ => none
/-- A loop that leaves blocks behind: what is known grows. -/
theorem run_invX {ι : Type} {B0 : Base} {K0 K : Kn} {M : Nat → Prop} {np : Nat} (hF : Fz B0 K0 M B K) (hpin : PinTo B np) (I : ι → Kn → Prop) (μ : ι → Nat) (slI : ι → Slots) (rsI : ι → List SFr) (hpI : ι → Hp) {fn : FId} {n : Nat} {td : List SI} {nx : Nat} (x0 : ι) (h0 : I x0 K)
    (step : ∀ (x : ι) (B' : Base) (K' : Kn), Fz B0 K0 M B' K' → PinTo B' np → I x K' → (∀ (y : ι) (B'' : Base) (K'' : Kn), Fz B0 K0 M B'' K'' → PinTo B'' np → I y K'' → μ y < μ x → Run P ro B'' f R ⟨⟨fn, n, slI y, td⟩, rsI y, hpI y, nx⟩) → Run P ro B' f R ⟨⟨fn, n, slI x, td⟩, rsI x, hpI x, nx⟩) :
    Run P ro B f R ⟨⟨fn, n, slI x0, td⟩, rsI x0, hpI x0, nx⟩ := by
  have main : ∀ (N : Nat) (x : ι) (B' : Base) (K' : Kn), μ x < N → Fz B0 K0 M B' K' → PinTo B' np → I x K' → Run P ro B' f R ⟨⟨fn, n, slI x, td⟩, rsI x, hpI x, nx⟩ := by
    intro N
    induction N with
    | zero => intro x B' K' h; exact absurd h (Nat.not_lt_zero _)
    | succ N ih => intro x B' K' h hF' hp' hI; exact step x B' K' hF' hp' hI fun y B'' K'' g1 g2 g3 g4 => ih y B'' K'' (by omega) g1 g2 g3
  exact main (μ x0 + 1) x0 B K (Nat.lt_succ_self _) hF hpin h0
end
end Sx
end
section
namespace Sx
open Go
section
variable {P : Program} {ro : Hp} {B : Base} {f : FuncId} {R : Ending → World → Prop}
/-- A block that is known from here on: what was its row is a value known for good. -/
theorem sat_freeze {K : Kn} (hB : B.ok) (hK : ∀ b o, K b = some o → B.D b = some o) {i off sz m m' cap : Nat} {ap : Ap} {g : Nat → Nat → SV} {ty : TypeId} {hp : Hp} {nx : Nat} {β : Env} {w : World} {u0 : Value}
    (hi : hget i hp = some (.row off m' cap sz g ty)) (hm : m ≤ m') (hcl : ∀ i k, i < m → k < sz → (g i k).closed = true) (hs : Sat β hp ro B nx w) (hu0 : Rel β (.sq i off 0 sz m ap) u0) :
    ∃ (B' : Base) (K' : Kn), Froz K' u0 m sz g ∧ Fz B K M0 B' K' ∧ B'.pin = B.pin ∧ B'.kd = B.kd ∧ Sat β (hdrop' [i] hp) ro B' nx w := by
  obtain ⟨base, room, e1, e2, e3, e4, e5⟩ := hu0
  have own' : ∀ j s, hget j (hdrop' [i] hp) = some s → hget j hp = some s ∧ j ≠ i := by
    intro j s hj
    rw [hdrop_get] at hj
    split at hj
    · cases hj
    · rename_i hn; exact ⟨hj, fun e => hn (by rw [e]; exact List.mem_singleton.2 rfl)⟩
  rcases Nat.eq_zero_or_pos m with h0 | h0
  · subst h0
    refine ⟨B, K, ⟨base, room, e1, e2, fun h => absurd h (Nat.lt_irrefl _)⟩, .refl hB hK, rfl, rfl, ⟨⟨fun j s hj hl => hs.own j s (own' j s hj).1 hl, fun j k s u hj hk => hs.apart j k s u (own' j s hj).1 (own' k u hk).1, hs.read, hs.old, hs.os, hs.tape, hs.output, hs.size, hs.pin⟩, hs.fresh⟩⟩
  · obtain ⟨b, o, h1, h2, h3, h4, h5⟩ := hs.own i _ hi (show 0 < m' by omega)
    obtain ⟨c, fz, tt, q1, q2, q3, q4, q5⟩ := h4
    obtain ⟨g1, b', g2, g3, _⟩ := e5 h0
    rw [h1] at g2; injection g2 with g2; subst g2
    have KB : ∀ x, (if x = b then some o else B.D x) = if x = b then some o else B.D x := fun _ => rfl
    let B' : Base := ⟨fun x => if x = b then some o else B.D x, w, B.pin, B.kd⟩
    let K' : Kn := fun x => if x = b then some o else K x
    have hBb : ∀ x o', B.D x = some o' → x ≠ b := by
      intro x o' hx e; subst e; rw [h2] at hx; cases hx
    have hF : Fz B K M0 B' K' := by
      refine ⟨fun x o' hx => ?_, rfl, Env.le_refl _, hs.os, hs.tape, hs.output, hs.size, fun x o' hx _ => ?_, fun x o' hx => ?_, fun x o' hx _ => ?_, fun x o' hx => ?_⟩
      · by_cases e : x = b
        · subst e; exact (Array.getElem?_eq_some_iff.1 h3).1
        · have hx : B.D x = some o' := by simpa [B', e] using hx
          exact Nat.lt_of_lt_of_le (hB x o' hx) hs.size
      · show (if x = b then some o else B.D x) = some o'
        rw [if_neg (hBb x o' hx)]; exact hx
      · show (if x = b then some o else B.D x) = some o'
        by_cases e : x = b
        · simpa [K', e] using hx
        · rw [if_neg e]; exact hK x o' (by simpa [K', e] using hx)
      · show (if x = b then some o else K x) = some o'
        rw [if_neg (hBb x o' (hK x o' hx))]; exact hx
      · by_cases e : x = b
        · subst e; exact .inr h2
        · left; have : K x = some o' := by simpa [K', e] using hx
          rw [this]; simp
    refine ⟨B', K', ⟨base, room, e1, e2, fun _ => ⟨g1, b, off, c, tt, fz, by rw [g3]; simp, by show (if b = b then some o else K b) = _; rw [if_pos rfl, q2], fun i k hi hk => ?_⟩⟩, hF, rfl, rfl, ?_⟩
    · obtain ⟨u, hu, hr⟩ := q5 i k (by omega) hk
      exact ⟨u, hu, Rel.closed _ _ (hcl i k hi hk) hr⟩
    · refine ⟨⟨fun j s hj hl => ?_, fun j k s u hj hk => hs.apart j k s u (own' j s hj).1 (own' k u hk).1, fun j s hj hl => ?_, fun x o' hx => ?_, rfl, rfl, rfl, Nat.le_refl _, hs.pin⟩, hs.fresh⟩
      · obtain ⟨hj, hne⟩ := own' j s hj
        obtain ⟨bj, oj, j1, j2, j3, j4, j5⟩ := hs.own j s hj hl
        refine ⟨bj, oj, j1, ?_, j3, j4, j5⟩
        show (if bj = b then some o else B.D bj) = none
        rw [if_neg, j2]
        intro e
        exact hs.apart j i s _ hj hi hl (show 0 < m' by omega) hne (by rw [j1, h1, e])
      · obtain ⟨bj, oj, j1, j2, j3⟩ := hs.read j s hj hl
        refine ⟨bj, oj, j1, ?_, j3⟩
        show (if bj = b then some o else B.D bj) = some oj
        rw [if_neg (hBb bj oj j2)]; exact j2
      · have hx : (if x = b then some o else B.D x) = some o' := hx
        by_cases e : x = b
        · subst e; simp at hx; subst hx; exact h3
        · rw [if_neg e] at hx; exact hs.old x o' hx
/-- The slice that a cell of a row holds is written no more. -/
theorem run_freezeC {K : Kn} (hB : B.ok) (hK : ∀ b o, K b = some o → B.D b = some o) (X j k : Nat) {L off sz m m' cap : Nat} {ap : Ap} {g : Nat → Nat → SV} {ty : TypeId} {offX nX capX szX : Nat} {F : Nat → Nat → SV} {tyX : TypeId} {fn : FId} {n : Nat} {sl : Slots} {td : List SI} {rest : List SFr} {hp hp1 : Hp} {hp2 : (Nat → Nat → SV) → Hp} {nx : Nat}
    (hX : hget X hp = some (.row offX nX capX szX F tyX)) (hF : F j k = .sq L off 0 sz m ap) (hj : j < nX) (hk : k < szX) (hi : hget L hp = some (.row off m' cap sz g ty)) (hne : Nat.beq X L = false) (hm : m ≤ m') (hcl : ∀ i k, i < m → k < sz → (g i k).closed = true) (hd : hdrop [L] hp some = some hp1)
    (hset2 : ∀ F', hset X (.row offX nX capX szX F' tyX) hp1 = some (hp2 F'))
    (hr : ∀ v B' K', Froz K' v m sz g → Fz B K M0 B' K' → B'.pin = B.pin → ∀ F', (∀ a b, a < nX → b < szX → F' a b = if a = j ∧ b = k then .val v else F a b) → Run P ro B' f R ⟨⟨fn, n, sl, td⟩, rest, hp2 F', nx⟩) : Run P ro B f R ⟨⟨fn, n, sl, td⟩, rest, hp, nx⟩ := by
  intro β w fr frs cs hf hfs hs hcs
  rw [hdrop_eq] at hd
  injection hd with hd; subst hd
  have hXL : X ≠ L := fun e => by subst e; simp at hne
  obtain ⟨bX, oX, x1, x2, x3, x4, x5⟩ := hs.own X _ hX (show 0 < nX by omega)
  obtain ⟨c, fz, tt, y1, y2, y3, y4, y5⟩ := x4
  obtain ⟨u, hu, hru⟩ := y5 j k hj hk
  rw [hF] at hru
  obtain ⟨B', K', g1, g2, g3, g4, g5⟩ := sat_freeze hB hK hi hm hcl hs hru
  have hone : u.oneCell' = true := by obtain ⟨base, room, e1, _⟩ := hru; rw [e1]; rfl
  let F' : Nat → Nat → SV := fun a b => if a = j ∧ b = k then .val u else F a b
  have hX' : hget X (hdrop' [L] hp) = some (.row offX nX capX szX F tyX) := by
    rw [hdrop_get, if_neg (by simpa using hXL)]; exact hX
  have old : ∀ i s, hget i (hp2 F') = some s → ∃ s0, hget i (hdrop' [L] hp) = some s0 ∧ (s.Live → s0.Live) ∧ ∀ o, (i = X → o = oX) → ORel β s0 o → ORel β s o := by
    intro i s hi'
    rw [hset_get (hset2 F') i] at hi'
    by_cases e : i = X
    · subst e
      rw [if_pos rfl, hX'] at hi'
      simp only [Option.map_some, Option.some.injEq] at hi'
      subst hi'
      refine ⟨_, hX', fun h => h, fun o ho _ => ?_⟩
      rw [ho rfl]
      refine ⟨c, fz, tt, y1, y2, y3, y4, fun a b ha hb => ?_⟩
      obtain ⟨u', hu', hr'⟩ := y5 a b ha hb
      by_cases e2 : a = j ∧ b = k
      · obtain ⟨rfl, rfl⟩ := e2
        refine ⟨u, hu, ?_⟩
        show Rel β (if a = a ∧ b = b then SV.val u else F a b) u
        rw [if_pos ⟨rfl, rfl⟩]
        exact ⟨rfl, hone⟩
      · refine ⟨u', hu', ?_⟩
        show Rel β (if a = j ∧ b = k then SV.val u else F a b) u'
        rw [if_neg e2]; exact hr'
    · rw [if_neg e] at hi'
      exact ⟨s, hi', fun h => h, fun o _ h => h⟩
  have hfin := hr u B' K' g1 g2 g3 F' (fun a b _ _ => rfl) β w fr frs cs hf hfs ?_ (by rw [g4]; exact hcs)
  · rw [g4] at hfin; exact hfin
  refine ⟨⟨fun i s hi' hl => ?_, fun i j s t hi' hj' hl hl' => ?_, g5.read, g5.old, g5.os, g5.tape, g5.output, g5.size, g5.pin⟩, g5.fresh⟩
  · obtain ⟨s0, h1, h2, h3⟩ := old i s hi'
    obtain ⟨b, o, k1, k2, k3, k4, k5⟩ := g5.own i s0 h1 (h2 hl)
    refine ⟨b, o, k1, k2, k3, h3 o (fun e => ?_) k4, k5⟩
    subst e
    rw [x1] at k1; injection k1 with k1; subst k1
    rw [x3] at k3; injection k3 with k3; exact k3.symm
  · obtain ⟨s0, h1, h2, _⟩ := old i s hi'
    obtain ⟨t0, h1', h2', _⟩ := old j t hj'
    exact g5.apart i j s0 t0 h1 h1' (h2 hl) (h2' hl')
end
section
variable {ι : Type} {P : Program} {ro : Hp} {B B' : Base} {f : FuncId} {K K' : Kn} {M : Nat → Prop} {ψ : ι → Kn → Prop} {out : ι → Out}
theorem run_retFX (hF : Fz B K M B' K') {np : Nat} (hpin : PinTo B' np) (z : ι) (hψ : ψ z K') (sg : List Nat) {g gn n : Nat} {gsl sl : Slots} {td gk : List SI} (htd : td = [] ∨ ∃ k, td = .code .ret :: k) {m : Gone} (hm : settled m = true) {hp : Hp} {nx : Nat} {cs0 cs ds : List Prop} {x v : SV} (hl : sg.length = (out z).nx) (h0 : resV P g gsl hp ro = some (cs0, x))
    (hv : resV P f sl hp ro = some (cs, v)) (hc0 : conj cs0) (hc : conj cs)
    (hk : retC nx sg np ro hp (out z) v = some ds) (hds : conj ds) : Run P ro B' f (HEndX B.pin B K M ro ψ out) ⟨⟨⟨g, none, [.late]⟩, gn, gsl, td⟩, [⟨⟨f, none, []⟩, n, sl, .gone m :: gk⟩], hp, nx⟩ := by
  unfold retC at hk
  cases hb : (dist nx sg (hkeys (out z).hp) && idTo nx sg np) with
  | false => rw [hb] at hk; cases hk
  | true =>
  rw [hb] at hk; simp only [cond_true] at hk
  simp only [Bool.and_eq_true] at hb
  split at hk <;> first | exact (none_ne hk).elim | skip
  rename_i a b c e1 e2 e3
  injection hk with hk; subst hk
  obtain ⟨h1, h2⟩ := conj_append hds
  obtain ⟨h2, h3⟩ := conj_append h2
  refine run_retX htd hm h0 hv hc0 hc (fun β w u hs hu => ?_) hpin.k
  obtain ⟨z', β', u', g1, g2, g3, g4, g5⟩ := hend_of (ψ := fun y => y = z) hpin z rfl sg hl e1 e2 hb.1 e3 hb.2 h1 h2 h3 β w u hs hu
  subst g1
  exact ⟨z', β', u', B', K', hψ, Env.le_trans hF.pin g2, g3, g4, hF, g5⟩
end
end Sx
end
section
namespace Sx
open Go
def rowC (g : Nat → SV) : (k c : Nat) → List SV → List SV
  | _, 0, r => r
  | k, c + 1, r => g k :: rowC g (k + 1) c r
def flatC (f : Nat → Nat → SV) (sz : Nat) : (e n : Nat) → List SV → List SV
  | _, 0, r => r
  | e, n + 1, r => rowC (f e) 0 sz (flatC f sz (e + 1) n r)
section
variable {P : Program} {ro : Hp} {B : Base} {f : FuncId} {R : Ending → World → Prop}
end
end Sx
end
section
namespace Sx
open Go
section
variable {P : Program} {ro : Hp} {B : Base} {f : FuncId} {R : Ending → World → Prop}
/-- The slice that a cell of a block holds is written no more. -/
theorem run_freezeB {K : Kn} (hB : B.ok) (hK : ∀ b o, K b = some o → B.D b = some o) (X k : Nat) {L off sz m m' cap : Nat} {ap : Ap} {g : Nat → Nat → SV} {ty : TypeId} {us : List SV} {tyX : TypeId} {fn : FId} {n : Nat} {sl : Slots} {td : List SI} {rest : List SFr} {hp hp1 : Hp} {hp2 : Value → Hp} {nx : Nat}
    (hX : hget X hp = some (.cells us tyX)) (hF : us[k]? = some (.sq L off 0 sz m ap)) (hi : hget L hp = some (.row off m' cap sz g ty)) (hne : Nat.beq X L = false) (hm : m ≤ m') (hcl : ∀ i k, i < m → k < sz → (g i k).closed = true) (hd : hdrop [L] hp some = some hp1)
    {us' : Value → List SV} (hus : ∀ v, us' v = us.set k (.val v)) (hset2 : ∀ v, hset X (.cells (us' v) tyX) hp1 = some (hp2 v))
    (hr : ∀ v B' K', Froz K' v m sz g → Fz B K M0 B' K' → B'.pin = B.pin → Run P ro B' f R ⟨⟨fn, n, sl, td⟩, rest, hp2 v, nx⟩) : Run P ro B f R ⟨⟨fn, n, sl, td⟩, rest, hp, nx⟩ := by
  intro β w fr frs cs hf hfs hs hcs
  rw [hdrop_eq] at hd
  injection hd with hd; subst hd
  have hXL : X ≠ L := fun e => by subst e; simp at hne
  obtain ⟨bX, oX, x1, x2, x3, x4, x5⟩ := hs.own X _ hX trivial
  obtain ⟨ws, y1, y2⟩ := x4
  obtain ⟨u, hu, hru⟩ := y2.get hF
  obtain ⟨B', K', g1, g2, g3, g4, g5⟩ := sat_freeze hB hK hi hm hcl hs hru
  have hone : u.oneCell' = true := by obtain ⟨base, room, e1, _⟩ := hru; rw [e1]; rfl
  have hX' : hget X (hdrop' [L] hp) = some (.cells us tyX) := by
    rw [hdrop_get, if_neg (by simpa using hXL)]; exact hX
  have old : ∀ i s, hget i (hp2 u) = some s → ∃ s0, hget i (hdrop' [L] hp) = some s0 ∧ (s.Live → s0.Live) ∧ ∀ o, (i = X → o = oX) → ORel β s0 o → ORel β s o := by
    intro i s hi'
    rw [hset_get (hset2 u) i] at hi'
    by_cases e : i = X
    · subst e
      rw [if_pos rfl, hX'] at hi'
      simp only [Option.map_some, Option.some.injEq] at hi'
      subst hi'
      refine ⟨_, hX', fun h => h, fun o ho _ => ?_⟩
      rw [ho rfl, hus u]
      refine ⟨ws, y1, RelL.mk (by rw [List.length_set]; exact y2.length) fun a s' v' h1 h2 => ?_⟩
      rw [List.getElem?_set] at h1
      by_cases e2 : k = a
      · subst e2
        have hk : k < us.length := (List.getElem?_eq_some_iff.1 hF).1
        rw [if_pos rfl, if_pos hk] at h1
        injection h1 with h1; subst h1
        rw [hu] at h2; injection h2 with h2; subst h2
        exact ⟨rfl, hone⟩
      · rw [if_neg e2] at h1
        obtain ⟨v2, q1, q2⟩ := y2.get h1
        rw [q1] at h2; injection h2 with h2; subst h2
        exact q2
    · rw [if_neg e] at hi'
      exact ⟨s, hi', fun h => h, fun o _ h => h⟩
  have hfin := hr u B' K' g1 g2 g3 β w fr frs cs hf hfs ?_ (by rw [g4]; exact hcs)
  · rw [g4] at hfin; exact hfin
  refine ⟨⟨fun i s hi' hl => ?_, fun i j s t hi' hj' hl hl' => ?_, g5.read, g5.old, g5.os, g5.tape, g5.output, g5.size, g5.pin⟩, g5.fresh⟩
  · obtain ⟨s0, h1, h2, h3⟩ := old i s hi'
    obtain ⟨b, o, k1, k2, k3, k4, k5⟩ := g5.own i s0 h1 (h2 hl)
    refine ⟨b, o, k1, k2, k3, h3 o (fun e => ?_) k4, k5⟩
    subst e
    rw [x1] at k1; injection k1 with k1; subst k1
    rw [x3] at k3; injection k3 with k3; exact k3.symm
  · obtain ⟨s0, h1, h2, _⟩ := old i s hi'
    obtain ⟨t0, h1', h2', _⟩ := old j t hj'
    exact g5.apart i j s0 t0 h1 h1' (h2 hl) (h2' hl')
end
theorem hcx_of_hck {ι : Type} {P : Program} {K : Kn} {M : Nat → Prop} {f : FuncId} {xs : List SV} {hp ro : Hp} {nx : Nat} {ψ : ι → Prop} {out : ι → Out} (h : HCK P K f xs hp ro nx ψ out) : HCX P K M f xs hp ro nx (fun z K' => ψ z ∧ K' = K) out := by
  intro B β w vs hB hK hl hs
  refine (h B β w vs hB hK hl hs).mono ?_
  rintro e w' ⟨z, β', u, h1, h2, h3, h4, h5⟩
  exact ⟨z, β', u, B, K, ⟨h1, rfl⟩, h2, h3, h4, .refl hB hK, h5⟩
theorem hck_of_run {ι : Type} {P : Program} {K : Kn} {f : FuncId} {fn : Func} {c : Code} {xs : List SV} {hp ro : Hp} {nx : Nat} {ψ : ι → Prop} {out : ι → Out} (hfn : P.funcs[f]? = some fn) (hb : fn.body = some c)
    (h : ∀ B : Base, B.ok → (∀ b o, K b = some o → B.D b = some o) → PinTo B nx → Run P ro B f (HEnd B.pin B ro ψ out) ⟨⟨fid f, xs.length + (fn.ntmps - xs.length), enumFrom 0 xs, [.code c]⟩, [], hp, nx⟩) : HCK P K f xs hp ro nx ψ out := by
  intro B β w vs hB hK hl hs
  have hs1 : Sat β hp ro ⟨B.D, B.w, β, Kind.norm⟩ nx w := ⟨⟨hs.own, hs.apart, hs.read, hs.old, hs.os, hs.tape, hs.output, hs.size, Env.le_refl _⟩, hs.fresh⟩
  refine (calls_of_run hfn hb hl hs1 (h ⟨B.D, B.w, β, Kind.norm⟩ hB hK ⟨hs.fresh, rfl⟩) rfl).mono ?_
  rintro e w' ⟨z, β', u, h1, h2, h3, h4, h5⟩
  exact ⟨z, β', u, h1, h2, h3, h4, ⟨h5.own, h5.apart, h5.read, h5.old, h5.os, h5.tape, h5.output, h5.size, Env.le_trans hs.pin h2⟩, h5.fresh⟩
end Sx
end
section
namespace Sx
open Go
section
variable {P : Program} {ro : Hp} {B : Base} {f : FuncId} {R : Ending → World → Prop}
theorem run_openB {K : Kn} (hK : ∀ b o, K b = some o → B.D b = some o) (X k : Nat) {v : Value} {m sz : Nat} {g : Nat → Nat → SV} (hF : Froz K v m sz g) (hsz : 0 < sz) {us : List SV} {tyX : TypeId} {fn : FId} {n : Nat} {sl : Slots} {td : List SI} {rest : List SFr} {hp : Hp} {hp2 : Nat → Hp} {nx : Nat}
    (hX : hget X hp = some (.cells us tyX)) (hv : us[k]? = some (.val v)) {us' : Nat → List SV} (hus : ∀ off, us' off = us.set k (.sq nx off 0 sz m .no)) (hset2 : ∀ off, hset X (.cells (us' off) tyX) hp = some (hp2 off))
    (hr : ∀ off, Run P ((nx, .row off m m sz g anyTy) :: ro) B f R ⟨⟨fn, n, sl, td⟩, rest, hp2 off, nx + 1⟩) : Run P ro B f R ⟨⟨fn, n, sl, td⟩, rest, hp, nx⟩ := by
  intro β w fr frs cs hf hfs hs hcs
  obtain ⟨off, β', hle, hrel, hs'⟩ := sat_open hK hF hsz hs
  obtain ⟨bX, oX, x1, x2, x3, x4, x5⟩ := hs'.own X _ hX trivial
  obtain ⟨ws, y1, y2⟩ := x4
  obtain ⟨u, hu, hru⟩ := y2.get hv
  have hru : u = v ∧ _ := hru
  have old : ∀ i s, hget i (hp2 off) = some s → ∃ s0, hget i hp = some s0 ∧ (s.Live → s0.Live) ∧ ∀ o, (i = X → o = oX) → ORel β' s0 o → ORel β' s o := by
    intro i s hi'
    rw [hset_get (hset2 off) i] at hi'
    by_cases e : i = X
    · subst e
      rw [if_pos rfl, hX] at hi'
      simp only [Option.map_some, Option.some.injEq] at hi'
      subst hi'
      refine ⟨_, hX, fun h => h, fun o ho _ => ?_⟩
      rw [ho rfl, hus off]
      refine ⟨ws, y1, RelL.mk (by rw [List.length_set]; exact y2.length) fun a s' v' h1 h2 => ?_⟩
      rw [List.getElem?_set] at h1
      by_cases e2 : k = a
      · subst e2
        have hk : k < us.length := (List.getElem?_eq_some_iff.1 hv).1
        rw [if_pos rfl, if_pos hk] at h1
        injection h1 with h1; subst h1
        rw [hu] at h2; injection h2 with h2; subst h2
        rw [hru.1]; exact hrel
      · rw [if_neg e2] at h1
        obtain ⟨v2, q1, q2⟩ := y2.get h1
        rw [q1] at h2; injection h2 with h2; subst h2
        exact q2
    · rw [if_neg e] at hi'
      exact ⟨s, hi', fun h => h, fun o _ h => h⟩
  refine hr off β' w fr frs cs (hf.mono hle) (hfs.mono hle) ⟨⟨fun i s hi' hl => ?_, fun i j s t hi' hj' hl hl' => ?_, hs'.read, hs'.old, hs'.os, hs'.tape, hs'.output, hs'.size, hs'.pin⟩, hs'.fresh⟩ hcs
  · obtain ⟨s0, h1, h2, h3⟩ := old i s hi'
    obtain ⟨b, o, k1, k2, k3, k4, k5⟩ := hs'.own i s0 h1 (h2 hl)
    refine ⟨b, o, k1, k2, k3, h3 o (fun e => ?_) k4, k5⟩
    subst e
    rw [x1] at k1; injection k1 with k1; subst k1
    rw [x3] at k3; injection k3 with k3; exact k3.symm
  · obtain ⟨s0, h1, h2, _⟩ := old i s hi'
    obtain ⟨t0, h1', h2', _⟩ := old j t hj'
    exact hs'.apart i j s0 t0 h1 h1' (h2 hl) (h2' hl')
end
end Sx
end
section
namespace Sx
open Go
/-- A call with another outcome. -/
abbrev RC.outs (c : RC) (o : Out) : RC := ⟨c.g, c.xs, c.hpc, c.roc, c.nxc, o.r, o.hp, o.nx, c.sg⟩
section
variable {P : Program} {M : Mode} {ro : Hp} {ops : Array Oper} {T : List (List Nat)} {n nx K m b : Nat} {Sl : Nat → Slots} {Hs : Nat → Hp} {dr : Nat → DR} {B : Base}
end
section
variable {T : List (List Nat)} {ops : Array Oper} {n idn K m b : Nat} {D D' : DRel} {Sl Sl' : Nat → Slots} {Hs Hs' : Nat → Hp} {dr dr' : Nat → DR} {ro : Hp} {B B' : Base}
end
section
variable {P : Program} {M : Mode} {ro : Hp} {B : Base} {f : FuncId} {R : Ending → World → Prop}
/-- The two lists tell the same of all operations that do not wait for c. -/
def sameAt (T : List (List Nat)) (m c : Nat) : Nat → List DR → List DR → Prop
  | _, [], _ => True
  | _, _ :: _, [] => False
  | j, d :: l, d' :: l' => (inT T (m + c) (m + j) = true ∨ Nat.beq j c = true ∨ d = d') ∧ sameAt T m c (j + 1) l l'
end
end Sx
end
section
namespace Sx
open Go
section
variable {P : Program} {ro : Hp} {B : Base} {f : FuncId} {R : Ending → World → Prop}
/-- Whether a number is in a set: a map whose values are all true. -/
theorem run_mbool {q : IntKind} {h : Int → Bool} {fn : FId} {n : Nat} {sl sl' : Slots} {ops : Array Oper} {i0 : Nat} {o : Oper} {cur : List Oper} {tl : Option (List Nat)} {k : List SI} {rest : List SFr} {hp : Hp} {nx i : Nat} {t et : TypeId} {x ix : Operand} {cs0 cs1 : List Prop} {a : Int} {rr : Option IntKind}
    (hi : hget i hp = some (.map q h (.any fun _ => .tt))) (ho : o.op = .lookup t x ix false) (hgd : guardIn ops sl o = some .run) (hx : evs sl x = some (cs0, .mp i)) (hc0 : conj cs0) (hix : evs sl ix = some (cs1, .int q a)) (hc1 : conj cs1) (hm : mapIn P t = some (q, et, rr)) (hz : zeroIn P et = some .ff)
    (hput : put o.dst (.sb (h a)) n sl = some sl') (hr : Run P ro B f R ⟨⟨fn, n, sl', .reg ops (i0 + 1) cur tl :: k⟩, rest, hp, nx⟩) :
    Run P ro B f R ⟨⟨fn, n, sl, .reg ops i0 (o :: cur) tl :: k⟩, rest, hp, nx⟩ := by
  refine run_op hr hput ?_
  intro β w tmps b k' fs r dd hn hsl hlt hs hk hop
  have hw := guard_rel hgd hn hsl hlt
  have hrho : Rho β sl (Act.eval ⟨tmps, dd⟩) := ⟨hsl, fun _ => rfl, fun _ => rfl⟩
  obtain ⟨b0, hβ, hv⟩ := evs_rel hrho hx (all_conj hc0)
  have hxi := evs_rel hrho hix (all_conj hc1)
  obtain ⟨b', ob, k1, k2, k3, k4, k5⟩ := hs.own _ _ hi trivial
  rw [hβ] at k1; injection k1 with k1; subst k1
  obtain ⟨es, clock, rfl, g⟩ := k4
  obtain ⟨kt, hu, hkt⟩ := mapIn_spec hm
  obtain ⟨fa, g1, g2, g3⟩ := find_run (P := P) (w := w) hkt g a
  obtain ⟨zv, z1, z2⟩ := zeroIn_run (P := P) hz β w
  have z2 : zv = .bool false := z2
  subst z2
  have key : (Instr.lookup t (.map (some b0)) (.int q a) false).run P w = .ok (.bool (h a)) w := by
    cases ha : h a with
    | true =>
      obtain ⟨j, e, rfl, _, _, he⟩ := g2 ha
      have he : e.val = .bool true := he
      simp only [Instr.lookup, Sem.run_bind, run_underlying hu, Result.andThen, MapKept.run_getObj_map k3, Sem.run_pure, MapKept.run_checkKey (k := .int q a) hkt rfl, g1, he]
      rfl
    | false =>
      obtain ⟨rfl, _⟩ := g3 ha
      simp only [Instr.lookup, Sem.run_bind, run_underlying hu, Result.andThen, MapKept.run_getObj_map k3, Sem.run_pure, MapKept.run_checkKey (k := .int q a) hkt rfl, g1, z1]
      rfl
  refine ⟨β, w, .bool (h a), Env.le_refl _, hs, rfl, .one (op_value hop hw ?_)⟩
  simp only [execOp, ho, Sem.run_bind]
  rw [show (Act.eval ⟨tmps, dd⟩ x) = .map (some b0) from hv, show (Act.eval ⟨tmps, dd⟩ ix) = .int q a from hxi]
  simp only [key, Result.andThen]
  rfl
end
end Sx
end
