/- The symbolic machine, part 5: what its steps give, proved against the model. Conditions: as each theorem says. -/
import Derived.Test.YtdjckiilfplnfaaEngX4
import Derived.DeepKeys3
import Derived.Maps.RangeRun
set_option linter.unusedSimpArgs false
set_option linter.unusedVariables false
section
namespace Sx
open Go
section
variable {P : Program} {ro : Hp} {B : Base} {f : FuncId} {R : Ending → World → Prop}
/-- The slice that a cell of a block holds is written no more. -/
theorem run_freezeB {K : Kn} (hB : B.ok) (hK : ∀ b o, K b = some o → B.D b = some o) (X k : Nat) {L off sz m m' cap : Nat} {ap : Ap} {g : Nat → Nat → SV} {ty : TypeId} {us : List SV} {tyX : TypeId} {fn : FId} {n : Nat} {sl : Slots} {td : List SI} {rest : List SFr} {hp hp1 : Hp} {hp2 : Value → Hp} {nx : Nat}
    (hX : hget X hp = some (.cells us tyX)) (hF : us[k]? = some (.sq L off 0 sz m ap)) (hi : hget L hp = some (.row off m' cap sz g ty)) (hne : Nat.beq X L = false) (hm : m ≤ m') (hcl : ∀ i k, i < m → k < sz → (g i k).closed = true) (hd : hdrop [L] hp some = some hp1)
    {us' : Value → List SV} (hus : ∀ v, us' v = us.set k (.val v)) (hset2 : ∀ v, hset X (.cells (us' v) tyX) hp1 = some (hp2 v))
    (hr : ∀ v B' K', Froz K' v m sz g → Fz B K M0 B' K' → B'.pin = B.pin → Run P ro B' f R ⟨⟨fn, n, sl, td⟩, rest, hp2 v, nx⟩) : Run P ro B f R ⟨⟨fn, n, sl, td⟩, rest, hp, nx⟩ := by
  intro β w fr frs cs hf hfs hs hcs
  rw [hdrop_eq] at hd
  injection hd with hd; subst hd
  have hXL : X ≠ L := fun e => by subst e; simp at hne
  obtain ⟨bX, oX, x1, x2, x3, x4, x5⟩ := hs.own X _ hX trivial
  obtain ⟨ws, y1, y2⟩ := x4
  obtain ⟨u, hu, hru⟩ := y2.get hF
  obtain ⟨B', K', g1, g2, g3, g4, g5⟩ := sat_freeze hB hK hi hm hcl hs hru
  have hone : u.oneCell' = true := by obtain ⟨base, room, e1, _⟩ := hru; rw [e1]; rfl
  have hX' : hget X (hdrop' [L] hp) = some (.cells us tyX) := by
    rw [hdrop_get, if_neg (by simpa using hXL)]; exact hX
  have old : ∀ i s, hget i (hp2 u) = some s → ∃ s0, hget i (hdrop' [L] hp) = some s0 ∧ (s.Live → s0.Live) ∧ ∀ o, (i = X → o = oX) → ORel β s0 o → ORel β s o := by
    intro i s hi'
    rw [hset_get (hset2 u) i] at hi'
    by_cases e : i = X
    · subst e
      rw [if_pos rfl, hX'] at hi'
      simp only [Option.map_some, Option.some.injEq] at hi'
      subst hi'
      refine ⟨_, hX', fun h => h, fun o ho _ => ?_⟩
      rw [ho rfl, hus u]
      refine ⟨ws, y1, RelL.mk (by rw [List.length_set]; exact y2.length) fun a s' v' h1 h2 => ?_⟩
      rw [List.getElem?_set] at h1
      by_cases e2 : k = a
      · subst e2
        have hk : k < us.length := (List.getElem?_eq_some_iff.1 hF).1
        rw [if_pos rfl, if_pos hk] at h1
        injection h1 with h1; subst h1
        rw [hu] at h2; injection h2 with h2; subst h2
        exact ⟨rfl, hone⟩
      · rw [if_neg e2] at h1
        obtain ⟨v2, q1, q2⟩ := y2.get h1
        rw [q1] at h2; injection h2 with h2; subst h2
        exact q2
    · rw [if_neg e] at hi'
      exact ⟨s, hi', fun h => h, fun o _ h => h⟩
  have hfin := hr u B' K' g1 g2 g3 β w fr frs cs hf hfs ?_ (by rw [g4]; exact hcs)
  · rw [g4] at hfin; exact hfin
  refine ⟨⟨fun i s hi' hl => ?_, fun i j s t hi' hj' hl hl' => ?_, g5.read, g5.old, g5.os, g5.tape, g5.output, g5.size, g5.pin⟩, g5.fresh⟩
  · obtain ⟨s0, h1, h2, h3⟩ := old i s hi'
    obtain ⟨b, o, k1, k2, k3, k4, k5⟩ := g5.own i s0 h1 (h2 hl)
    refine ⟨b, o, k1, k2, k3, h3 o (fun e => ?_) k4, k5⟩
    subst e
    rw [x1] at k1; injection k1 with k1; subst k1
    rw [x3] at k3; injection k3 with k3; exact k3.symm
  · obtain ⟨s0, h1, h2, _⟩ := old i s hi'
    obtain ⟨t0, h1', h2', _⟩ := old j t hj'
    exact g5.apart i j s0 t0 h1 h1' (h2 hl) (h2' hl')
end
theorem hck_of_run {ι : Type} {P : Program} {K : Kn} {f : FuncId} {fn : Func} {c : Code} {xs : List SV} {hp ro : Hp} {nx : Nat} {ψ : ι → Prop} {out : ι → Out} (hfn : P.funcs[f]? = some fn) (hb : fn.body = some c)
    (h : ∀ B : Base, B.ok → (∀ b o, K b = some o → B.D b = some o) → PinTo B nx → Run P ro B f (HEnd B.pin B ro ψ out) ⟨⟨fid f, xs.length + (fn.ntmps - xs.length), enumFrom 0 xs, [.code c]⟩, [], hp, nx⟩) : HCK P K f xs hp ro nx ψ out := by
  intro B β w vs hB hK hl hs
  have hs1 : Sat β hp ro ⟨B.D, B.w, β, Kind.norm⟩ nx w := ⟨⟨hs.own, hs.apart, hs.read, hs.old, hs.os, hs.tape, hs.output, hs.size, Env.le_refl _⟩, hs.fresh⟩
  refine (calls_of_run hfn hb hl hs1 (h ⟨B.D, B.w, β, Kind.norm⟩ hB hK ⟨hs.fresh, rfl⟩) rfl).mono ?_
  rintro e w' ⟨z, β', u, h1, h2, h3, h4, h5⟩
  exact ⟨z, β', u, h1, h2, h3, h4, ⟨h5.own, h5.apart, h5.read, h5.old, h5.os, h5.tape, h5.output, h5.size, Env.le_trans hs.pin h2⟩, h5.fresh⟩
end Sx
end
section
namespace Sx
open Go
section
variable {P : Program} {ro : Hp} {B : Base} {f : FuncId} {R : Ending → World → Prop}
theorem run_openB {K : Kn} (hK : ∀ b o, K b = some o → B.D b = some o) (X k : Nat) {v : Value} {m sz : Nat} {g : Nat → Nat → SV} (hF : Froz K v m sz g) (hsz : 0 < sz) {us : List SV} {tyX : TypeId} {fn : FId} {n : Nat} {sl : Slots} {td : List SI} {rest : List SFr} {hp : Hp} {hp2 : Nat → Hp} {nx : Nat}
    (hX : hget X hp = some (.cells us tyX)) (hv : us[k]? = some (.val v)) {us' : Nat → List SV} (hus : ∀ off, us' off = us.set k (.sq nx off 0 sz m .no)) (hset2 : ∀ off, hset X (.cells (us' off) tyX) hp = some (hp2 off))
    (hr : ∀ off, Run P ((nx, .row off m m sz g anyTy) :: ro) B f R ⟨⟨fn, n, sl, td⟩, rest, hp2 off, nx + 1⟩) : Run P ro B f R ⟨⟨fn, n, sl, td⟩, rest, hp, nx⟩ := by
  intro β w fr frs cs hf hfs hs hcs
  obtain ⟨off, β', hle, hrel, hs'⟩ := sat_open hK hF hsz hs
  obtain ⟨bX, oX, x1, x2, x3, x4, x5⟩ := hs'.own X _ hX trivial
  obtain ⟨ws, y1, y2⟩ := x4
  obtain ⟨u, hu, hru⟩ := y2.get hv
  have hru : u = v ∧ _ := hru
  have old : ∀ i s, hget i (hp2 off) = some s → ∃ s0, hget i hp = some s0 ∧ (s.Live → s0.Live) ∧ ∀ o, (i = X → o = oX) → ORel β' s0 o → ORel β' s o := by
    intro i s hi'
    rw [hset_get (hset2 off) i] at hi'
    by_cases e : i = X
    · subst e
      rw [if_pos rfl, hX] at hi'
      simp only [Option.map_some, Option.some.injEq] at hi'
      subst hi'
      refine ⟨_, hX, fun h => h, fun o ho _ => ?_⟩
      rw [ho rfl, hus off]
      refine ⟨ws, y1, RelL.mk (by rw [List.length_set]; exact y2.length) fun a s' v' h1 h2 => ?_⟩
      rw [List.getElem?_set] at h1
      by_cases e2 : k = a
      · subst e2
        have hk : k < us.length := (List.getElem?_eq_some_iff.1 hv).1
        rw [if_pos rfl, if_pos hk] at h1
        injection h1 with h1; subst h1
        rw [hu] at h2; injection h2 with h2; subst h2
        rw [hru.1]; exact hrel
      · rw [if_neg e2] at h1
        obtain ⟨v2, q1, q2⟩ := y2.get h1
        rw [q1] at h2; injection h2 with h2; subst h2
        exact q2
    · rw [if_neg e] at hi'
      exact ⟨s, hi', fun h => h, fun o _ h => h⟩
  refine hr off β' w fr frs cs (hf.mono hle) (hfs.mono hle) ⟨⟨fun i s hi' hl => ?_, fun i j s t hi' hj' hl hl' => ?_, hs'.read, hs'.old, hs'.os, hs'.tape, hs'.output, hs'.size, hs'.pin⟩, hs'.fresh⟩ hcs
  · obtain ⟨s0, h1, h2, h3⟩ := old i s hi'
    obtain ⟨b, o, k1, k2, k3, k4, k5⟩ := hs'.own i s0 h1 (h2 hl)
    refine ⟨b, o, k1, k2, k3, h3 o (fun e => ?_) k4, k5⟩
    subst e
    rw [x1] at k1; injection k1 with k1; subst k1
    rw [x3] at k3; injection k3 with k3; exact k3.symm
  · obtain ⟨s0, h1, h2, _⟩ := old i s hi'
    obtain ⟨t0, h1', h2', _⟩ := old j t hj'
    exact hs'.apart i j s0 t0 h1 h1' (h2 hl) (h2' hl')
end
end Sx
end
section
namespace Sx
open Go
section
variable {P : Program} {ro : Hp} {B : Base} {f : FuncId} {R : Ending → World → Prop}
end
end Sx
end
section
namespace Sx
open Go
/-- A contract that stands where Q holds of the names. -/
def HCXq {ι : Type} (P : Program) (K : Kn) (Q : Env → Prop) (f : FuncId) (xs : List SV) (hp ro : Hp) (nx : Nat) (ψ : ι → Kn → Prop) (out : ι → Out) : Prop :=
  ∀ (B : Base) (β : Env) (w : World) (vs : List Value), Q β → B.ok → (∀ b o, K b = some o → B.D b = some o) → RelL β xs vs → Sat β hp ro B nx w → Calls P f vs.toArray w (HEndX β B K M0 ro ψ out)
/-- A call with another outcome. -/
abbrev RC.outs (c : RC) (o : Out) : RC := ⟨c.g, c.xs, c.hpc, c.roc, c.nxc, o.r, o.hp, o.nx, c.sg⟩
theorem dopR_tb {pn : Nat → Prop} {P : Program} {M : Mode} {ro : Hp} {ops : Array Oper} {tb tb' : RT} {b K N idn : Nat} (h : rtGet idn tb = rtGet idn tb') (o : Oper) (sl : Slots) (hp : Hp) : dopR pn P M ro ops tb b K N idn o sl hp = dopR pn P M ro ops tb' b K N idn o sl hp := by unfold dopR; rw [h]
section
variable {P : Program} {M : Mode} {ro : Hp} {ops : Array Oper} {T : List (List Nat)} {n nx K m b : Nat} {Sl : Nat → Slots} {Hs : Nat → Hp} {dr : Nat → DR} {B : Base}
theorem call_didX {ι : Type} {ψ : ι → Kn → Prop} {K0 : Kn} (hkn : ∀ bb o, K0 bb = some o → B.D bb = some o) {c : RC} {out : ι → Out} (z0 : ι) {Q : Env → Prop} (hHC : HCXq P K0 Q c.g c.xs c.hpc c.roc c.nxc ψ out) (hl : c.sg.length = c.nxc) (hno : ∀ z, c.nxc ≤ (out z).nx) {β : Env} {hpj hpv : Hp} {w : World} {d : ι → DR} {cs1 : List Prop} {idn N : Nat} {as : List SV} {vs : List Value} {g : Nat} (hb0 : 0 < b) (hQ : ∀ β : Env, B.pin.le β → Q (β.via N c.sg))
    (hview : ∀ t s, hget t hpv = some s → hget t hpj = some s) (hfresh : ∀ k, β (idn + k * b) = none) (hsat : Sat β hpv ro B N w)
    (hchk : ∀ z, rcChk (c.outs (out z)) b K N g = true) (hcs : rcConds (Pinned B) c N ro hpv as = some cs1) (hall : All cs1) (hvs : RelL β as vs) (hwh : ∀ z, (d z).wh = renH' N ((c.outs (out z)).names b idn) [] (out z).hp) (hdl : ∀ z, (d z).dl = (hkeys c.hpc).map (sig N c.sg)) (hrh : ∀ z, (d z).rh = c.sg) :
    Calls P c.g vs.toArray w fun e w' => ∃ (z : ι) (β' : Env) (u : Value) (B' : Base) (K' : Kn), e = .returned u ∧ ψ z K' ∧ Did hpj β (d z) (fun i => ∃ k, k < K ∧ i = idn + k * b) w β' w' ∧ Rel β' (ren N ((c.outs (out z)).names b idn) (out z).r) u ∧
      Fz B K0 M0 B' K' ∧ B'.pin = B.pin ∧ B'.w = w' ∧ (∀ i so bl, hget i (d z).wh = some so → so.Live → β' i = some bl → B'.D bl = none) ∧ (∀ bl o, B'.D bl = some o → w'.heap[bl]? = some o) ∧
      (∀ bl o, B.D bl = none → w.heap[bl]? = some o → (∀ t s, t ∈ (d z).mod → hget t hpj = some s → s.Live → β t = some bl → False) → B'.D bl = none) := by
  have hchk0 := hchk z0
  unfold rcChk at hchk0
  simp only [Bool.and_eq_true] at hchk0
  obtain ⟨⟨⟨⟨⟨⟨_, k2⟩, k3⟩, k4⟩, _⟩, k6⟩, _⟩ := hchk0
  have k2 : allLt N c.sg = true := k2
  have k3 : cover (hkeys c.hpc ++ hkeys c.roc) c.sg.length = true := k3
  have k4 : dist N c.sg (hkeys c.hpc ++ hkeys c.roc) = true := k4
  have k6 : ∀ i ∈ hkeys c.hpc, i < c.nxc := allLt_spec k6
  unfold rcConds at hcs
  split at hcs <;> first | exact (none_ne hcs).elim | skip
  rename_i d1 d2 d3 e1 e2 e3
  rw [renFL_eq] at e1
  injection hcs with hcs; subst hcs
  have a1 : All d1 := hall.left
  have a2 : All d2 := hall.right.left
  have a3 : All d3 := hall.right.right.left
  have a4 : All (liveC (Pinned B) N c.sg c.hpc) := hall.right.right.right.left
  have a5 : All (liveC (Pinned B) N c.sg c.roc) := hall.right.right.right.right
  obtain ⟨D, hD1, hD2, hBok, hs1, hinj⟩ := hsat.lend k2 k3 e2 e3 k4 a2 a3
  rw [hl] at hs1
  have hargs : RelL (β.via N c.sg) c.xs vs := (renL_rel _ _).1 (eqL_less _ _ _ e1 a1 β vs hvs)
  -- the names handed in are bound
  have bound : ∀ i, i < c.nxc → ∃ bl, β (sig N c.sg i) = some bl := by
    intro i hi
    have hm := cover_spec k3 i (by omega)
    rcases List.mem_append.1 hm with hm | hm
    · obtain ⟨s, hs⟩ := hkeys_get hm
      rcases liveC_spec a4 hs with hl | ⟨bl, hb⟩
      · obtain ⟨s0, cs, g1, g2, g3⟩ := hpM_spec e2 a2 hs hl
        obtain ⟨bl, o, q1, _⟩ := hsat.own _ _ g1 (eqO_live g2 g3 hl)
        exact ⟨bl, q1⟩
      · exact ⟨bl, hsat.pin _ _ hb⟩
    · obtain ⟨s, hs⟩ := hkeys_get hm
      rcases liveC_spec a5 hs with hl | ⟨bl, hb⟩
      · obtain ⟨s0, cs, g1, g2, g3⟩ := orM_spec e3 a3 hs hl
        rcases g1 with g1 | g1
        · obtain ⟨bl, o, q1, _⟩ := hsat.own _ _ g1 (eqO_live g2 g3 hl)
          exact ⟨bl, q1⟩
        · obtain ⟨bl, o, q1, _⟩ := hsat.read _ _ g1 (eqO_live g2 g3 hl)
          exact ⟨bl, q1⟩
      · exact ⟨bl, hsat.pin _ _ hb⟩
  have hDk : ∀ bb o, K0 bb = some o → D bb = some o := fun bb o e => by
    have e1 := hkn bb o e
    rw [hD2 bb (by
      rintro ⟨i, so, s, f1, f2, f3, f4⟩
      obtain ⟨b', o', g1, g2, _⟩ := hsat.own _ _ f2 f3
      rw [f4] at g1; injection g1 with g1; subst g1
      rw [e1] at g2; cases g2)]
    exact hsat.old bb o e1
  refine (hHC ⟨D, w, Env.nil, Kind.norm⟩ _ w vs (hQ β hsat.pin) hBok hDk hargs hs1).mono ?_
  rintro e w' ⟨z, β2, u, B1, K', hψ, hle2, rfl, hu, hF, hs2⟩
  have hno := hno z
  have hwh := hwh z
  have hdl := hdl z
  have hrh := hrh z
  have hchk1 := hchk z
  generalize hdz : d z = dz at hwh hdl hrh
  generalize hcz : c.outs (out z) = cz at hchk1 hwh
  have c_g : cz.g = c.g := by rw [← hcz]
  have c_sg : cz.sg = c.sg := by rw [← hcz]
  have c_nxc : cz.nxc = c.nxc := by rw [← hcz]
  have c_r : cz.r = (out z).r := by rw [← hcz]
  have c_hpo : cz.hpo = (out z).hp := by rw [← hcz]
  have c_nxo : cz.nxo = (out z).nx := by rw [← hcz]
  have c_hpc : cz.hpc = c.hpc := by rw [← hcz]
  rw [← c_hpo] at hs2 hwh
  rw [← c_nxo] at hs2 hno
  rw [← c_r] at hu
  unfold rcChk at hchk1
  simp only [Bool.and_eq_true] at hchk1
  obtain ⟨⟨⟨_, k5⟩, _⟩, k7⟩ := hchk1
  have k7 := ble_nat k7
  have k5 := allLt_spec k5
  rw [c_nxc] at k7
  have hlz : cz.sg.length = cz.nxc := by rw [c_sg, c_nxc]; exact hl
  have nlt : ∀ {i : Nat}, i < c.nxc → sig N (cz.names b idn) i = sig N c.sg i := fun hi => by rw [names_lt hlz (by rw [c_nxc]; exact hi), c_sg]
  have nge : ∀ {i : Nat}, c.nxc ≤ i → i < cz.nxo → sig N (cz.names b idn) i = idn + (i - c.nxc) * b := fun h1 h2 => by rw [names_ge hlz (by rw [c_nxc]; exact h1) h2, c_nxc]
  let isf : Nat → Prop := fun j => ∃ k, k < cz.nxo - c.nxc ∧ j = idn + k * b
  have hE : ∀ j, ∃ x : Option Nat × Nat, (∀ k, k < cz.nxo - c.nxc → j = idn + k * b → x = (β2 (c.nxc + k), β2.room (c.nxc + k))) ∧ (¬ isf j → x = (β j, β.room j)) := by
    intro j
    by_cases h : isf j
    · obtain ⟨k, h1, h2⟩ := h
      refine ⟨(β2 (c.nxc + k), β2.room (c.nxc + k)), fun k' h3 h4 => ?_, fun g => absurd ⟨k, h1, h2⟩ g⟩
      have : k = k' := Nat.eq_of_mul_eq_mul_right hb0 (by omega)
      rw [this]
    · exact ⟨(β j, β.room j), fun k h1 h2 => absurd ⟨k, h1, h2⟩ h, fun _ => rfl⟩
  obtain ⟨x, hx⟩ : ∃ x : Nat → Option Nat × Nat, ∀ j, (∀ k, k < cz.nxo - c.nxc → j = idn + k * b → x j = (β2 (c.nxc + k), β2.room (c.nxc + k))) ∧ (¬ isf j → x j = (β j, β.room j)) := ⟨fun j => Classical.choose (hE j), fun j => Classical.choose_spec (hE j)⟩
  obtain ⟨β', hβ⟩ : ∃ β' : Env, β' = ⟨fun j => (x j).1, fun j => (x j).2⟩ := ⟨_, rfl⟩
  have new1 : ∀ k, k < cz.nxo - c.nxc → β' (idn + k * b) = β2 (c.nxc + k) ∧ β'.room (idn + k * b) = β2.room (c.nxc + k) := fun k hk => by
    rw [hβ]; exact ⟨by show (x _).1 = _; rw [(hx _).1 k hk rfl], by show (x _).2 = _; rw [(hx _).1 k hk rfl]⟩
  have old1 : ∀ j, ¬ isf j → β' j = β j ∧ β'.room j = β.room j := fun j hj => by
    rw [hβ]; exact ⟨by show (x _).1 = _; rw [(hx _).2 hj], by show (x _).2 = _; rw [(hx _).2 hj]⟩
  have notf : ∀ j bl, β j = some bl → ¬ isf j := by
    rintro j bl hj ⟨k, _, rfl⟩
    rw [hfresh k] at hj; cases hj
  have hle : β.le β' := ⟨fun j bl h => by rw [(old1 j (notf j bl h)).1]; exact h, fun j bl h => (old1 j (notf j bl h)).2⟩
  have hvia : β2.le (β'.via N (cz.names b idn)) := by
    have key : ∀ i bl, β2 i = some bl → β' (sig N (cz.names b idn) i) = some bl ∧ β'.room (sig N (cz.names b idn) i) = β2.room i := by
      intro i bl hi
      have hi2 : i < cz.nxo := by
        rcases Nat.lt_or_ge i cz.nxo with g | g
        · exact g
        · rw [hs2.fresh i g] at hi; cases hi
      rcases Nat.lt_or_ge i c.nxc with g | g
      · rw [nlt g]
        obtain ⟨bl0, h0⟩ := bound i g
        have h1 := hle2 i bl0 h0
        rw [hi] at h1; injection h1 with h1; subst h1
        have h2 := old1 _ (notf _ _ h0)
        exact ⟨h2.1.trans h0, h2.2.trans (hle2.r i _ h0).symm⟩
      · rw [nge g hi2]
        have := new1 (i - c.nxc) (by omega)
        rw [show c.nxc + (i - c.nxc) = i by omega] at this
        exact ⟨this.1.trans hi, this.2⟩
    exact ⟨fun i bl h => (key i bl h).1, fun i bl h => (key i bl h).2⟩
  -- two names of the callee's at the caller's
  have inj2 : ∀ a a', a < cz.nxo → a' < cz.nxo → sig N (cz.names b idn) a = sig N (cz.names b idn) a' → a = a' := by
    intro a a' ha ha' he
    have mixed : ∀ a a', a < c.nxc → c.nxc ≤ a' → a' < cz.nxo → sig N (cz.names b idn) a = sig N (cz.names b idn) a' → False := by
      intro a a' h1 h2 h3 he
      rw [nlt h1, nge h2 h3] at he
      obtain ⟨bl, h0⟩ := bound a h1
      rw [he, hfresh] at h0; cases h0
    rcases Nat.lt_or_ge a c.nxc with g | g <;> rcases Nat.lt_or_ge a' c.nxc with g' | g'
    · rw [nlt g, nlt g'] at he; exact hinj _ _ he
    · exact (mixed a a' g g' ha' he).elim
    · exact (mixed a' a g' g ha he.symm).elim
    · rw [nge g ha, nge g' ha'] at he
      have : a - c.nxc = a' - c.nxc := Nat.eq_of_mul_eq_mul_right hb0 (by omega)
      omega
  have back : ∀ i so, hget i dz.wh = some so → ∃ a s0, i = sig N (cz.names b idn) a ∧ a < cz.nxo ∧ hget a cz.hpo = some s0 ∧ so = renO N (cz.names b idn) s0 id := by
    intro i so hi
    rw [hwh] at hi
    rcases renH_get hi with ⟨a, s0, q1, q2, q3, q4, q5⟩ | h
    · exact ⟨a, s0, q1, k5 a q2, q5 (fun x y hx hy he => inj2 x y (k5 x hx) (k5 y hy) he), q4⟩
    · cases h
  have footm : ∀ bl, Foot β hpv c.hpc N c.sg bl → ∃ t s, t ∈ dz.mod ∧ hget t hpj = some s ∧ s.Live ∧ β t = some bl := by
    rintro bl ⟨i, so, s, h1, h2, h3, h4⟩
    refine ⟨sig N c.sg i, s, ?_, hview _ _ h2, h3, h4⟩
    unfold DR.mod
    rw [wkeys_mem, hdl]
    exact .inr (List.mem_map_of_mem (hkeys_mem h1))
  have p2D : ∀ bl, B1.D bl = none → D bl = none := fun bl p => by
    cases hb : D bl with
    | none => rfl
    | some o => rw [hF.keep bl o hb (fun h => h)] at p; cases p
  have BD : ∀ b' o, B.D b' = some o → D b' = some o := fun b' o hb => by
    have hnf : ¬ Foot β hpv c.hpc N c.sg b' := by
      rintro ⟨i, so, s, f1, f2, f3, f4⟩
      obtain ⟨b1, o1, g1, g2, _⟩ := hsat.own _ _ f2 f3
      rw [f4] at g1; injection g1 with g1; subst g1
      rw [hb] at g2; cases g2
    rw [hD2 b' hnf]; exact hsat.old b' o hb
  let B' : Base := ⟨fun b' => match B.D b' with | some o => some o | none => K' b', w', B.pin, B.kd⟩
  have hB'1 : ∀ b' o, B.D b' = some o → B'.D b' = some o := fun b' o h => by show (match B.D b' with | some o => some o | none => K' b') = _; rw [h]
  have hB'2 : ∀ b', B.D b' = none → B'.D b' = K' b' := fun b' h => by show (match B.D b' with | some o => some o | none => K' b') = _; rw [h]
  have hB'3 : ∀ b' o, B'.D b' = some o → B1.D b' = some o := fun b' o h => by
    cases hb : B.D b' with
    | some o1 =>
      rw [hB'1 b' o1 hb] at h; injection h with h; subst h
      exact hF.keep b' _ (BD b' _ hb) (fun h => h)
    | none => rw [hB'2 b' hb] at h; exact hF.le b' o h
  have hK'D : ∀ b' o, K' b' = some o → B'.D b' = some o := fun b' o h => by
    cases hb : B.D b' with
    | none => rw [hB'2 b' hb]; exact h
    | some o1 =>
      have h1 := hF.keep b' o1 (BD b' o1 hb) (fun h => h)
      rw [hF.le b' o h] at h1
      rw [hB'1 b' o1 hb, h1]
  have hFB : Fz B K0 M0 B' K' := by
    refine ⟨fun b' o h => ?_, rfl, Env.le_refl _, hs2.os.trans (hF.os.trans hsat.os), hs2.tape.trans (hF.tape.trans hsat.tape), hs2.output.trans (hF.output.trans hsat.output), Nat.le_trans hsat.size (Nat.le_trans hF.size hs2.size), fun b' o h _ => hB'1 b' o h, hK'D, fun b' o h _ => hF.old b' o h (fun h => h), fun b' o h => ?_⟩
    · exact (Array.getElem?_eq_some_iff.1 (hs2.old b' o (hB'3 b' o h))).1
    · rcases hF.new b' o h with h1 | h1
      · exact .inl h1
      · right
        cases hb : B.D b' with
        | none => rfl
        | some o1 =>
          have h1 : D b' = none := h1
          rw [BD b' o1 hb] at h1; cases h1
  have hK0 : ∀ b', B.D b' = none → K0 b' = none := fun b' h => by
    cases hk : K0 b' with
    | none => rfl
    | some o => rw [hkn b' o hk] at h; cases h
  have hdid : Did hpj β dz (fun i => ∃ k, k < K ∧ i = idn + k * b) w β' w' := by
    refine ⟨hle, ?_, ?_, ?_, ?_, ?_, hs2.os.trans hF.os, hs2.tape.trans hF.tape, hs2.output.trans hF.output, Nat.le_trans hF.size hs2.size⟩
    · intro i bl hi
      by_cases h : isf i
      · obtain ⟨k, h1, h2⟩ := h
        exact .inr ⟨k, by omega, h2⟩
      · exact .inl ((old1 i h).1.symm.trans hi)
    · intro i hi
      unfold DR.mod at hi
      rw [wkeys_mem, hdl] at hi
      rw [hrh]
      have insg : ∀ a, a < c.nxc → sig N c.sg a ∈ c.sg := fun a ha => by
        obtain ⟨j, j1, j2⟩ := sig_lt (nx := N) (sg := c.sg) (i := a) (by omega)
        rw [j2]; exact List.mem_of_getElem? j1
      rcases hi with ⟨so, hi⟩ | hi
      · obtain ⟨a, s0, rfl, q2, q3, q4⟩ := back i so hi
        rcases Nat.lt_or_ge a c.nxc with g | g
        · rw [nlt g]; exact .inr (insg a g)
        · rw [nge g q2]; exact .inl ⟨a - c.nxc, by omega, rfl⟩
      · obtain ⟨a, h1, rfl⟩ := List.mem_map.1 hi
        exact .inr (insg a (k6 a h1))
    · intro i so hi hlive
      obtain ⟨a, s0, rfl, q2, q3, rfl⟩ := back i so hi
      obtain ⟨bl, o, p1, p2, p3, p4, p5⟩ := hs2.own a s0 q3 (renO_live hlive)
      refine ⟨bl, o, hvia a bl p1, p3, renO_rel (ORel.mono hvia _ _ p4), ?_, ?_⟩
      · have := hvia.r a bl p1
        have e : β'.room (sig N (cz.names b idn) a) = β2.room a := this
        rw [e]; exact p5
      · by_cases hf : Foot β hpv c.hpc N c.sg bl
        · exact .inr (footm bl hf)
        · have p2 : D bl = none := p2D bl p2
          rw [hD2 bl hf] at p2
          left
          simpa using p2
    · intro i i' so so' hi hi' ls ls' hne
      obtain ⟨a, s0, rfl, q2, q3, rfl⟩ := back i so hi
      obtain ⟨a', s0', rfl, q2', q3', rfl⟩ := back i' so' hi'
      have hne' : a ≠ a' := by rintro rfl; exact hne rfl
      have ap := hs2.apart a a' s0 s0' q3 q3' (renO_live ls) (renO_live ls') hne'
      obtain ⟨bl, o, p1, _⟩ := hs2.own a s0 q3 (renO_live ls)
      obtain ⟨bl', o', p1', _⟩ := hs2.own a' s0' q3' (renO_live ls')
      have r1 : β' (sig N (cz.names b idn) a) = some bl := hvia a bl p1
      have r2 : β' (sig N (cz.names b idn) a') = some bl' := hvia a' bl' p1'
      rw [r1, r2]; rw [p1, p1'] at ap; exact ap
    · intro bl o he hno'
      have hnf : ¬ Foot β hpv c.hpc N c.sg bl := fun hf => by
        obtain ⟨t, s, h1, h2, h3, h4⟩ := footm bl hf
        exact hno' t s h1 h2 h3 h4
      exact hs2.old bl o (hF.keep bl o (by show D bl = some o; rw [hD2 bl hnf]; exact he) (fun h => h))
  refine ⟨z, β', u, B', K', rfl, hψ, (by rw [hdz]; exact hdid), (by rw [hcz, ← c_r]; exact (ren_rel _ _).2 (Rel.mono hvia _ _ hu)), hFB, rfl, rfl, ?_, ?_, ?_⟩
  · intro i so bl hi hlive hbl
    rw [hdz] at hi
    obtain ⟨a, s0, rfl, q2, q3, rfl⟩ := back i so hi
    obtain ⟨bl', o, p1, p2, p3, p4, p5⟩ := hs2.own a s0 q3 (renO_live hlive)
    have e := hvia a bl' p1
    have e : β' (sig N (cz.names b idn) a) = some bl' := e
    rw [hbl] at e; injection e with e; subst e
    cases hb : B'.D bl with
    | none => rfl
    | some o1 => rw [hB'3 bl o1 hb] at p2; cases p2
  · exact fun bl o h => hs2.old bl o (hB'3 bl o h)
  · intro bl o h1 h2 h3
    rw [hdz] at h3
    rw [hB'2 bl h1]
    cases hk : K' bl with
    | none => rfl
    | some o1 =>
      exfalso
      rcases hF.new bl o1 hk with g | g
      · exact g (hK0 bl h1)
      · have g : D bl = none := g
        have hnf : ¬ Foot β hpv c.hpc N c.sg bl := fun hf => by
          obtain ⟨t, s, q1, q2, q3, q4⟩ := footm bl hf
          exact h3 t s q1 q2 q3 q4
        rw [hD2 bl hnf, h2] at g; cases g

theorem rcx_did {ι : Type} {ψ : ι → Kn → Prop} {K0 : Kn} {D : DRel} {dd : List Deferred} (hP : Named P) (hkn : ∀ bb o, K0 bb = some o → B.D bb = some o) {c : RC} {out : ι → Out} (z0 : ι) {Q : Env → Prop} (hQ : ∀ β : Env, B.pin.le β → Q (β.via (nx + b * K) c.sg)) (hHC : HCXq P K0 Q c.g c.xs c.hpc c.roc c.nxc ψ out) (hlc : c.sg.length = c.nxc) (hno : ∀ z, c.nxc ≤ (out z).nx) {tb : ι → RT} (hch : Chain D ops n nx m b Sl Hs dr) (hin : Indeps T m b dr) (h0 : ∀ t v, look t (Sl 0) = some v → t < n) {X : Nat → Prop} (hX' : Closed T m b X) {j : Nat} (hj : j < b) (hjX : ¬ X j)
    (hpre : ∀ i, i < b → inT T (m + i) (m + j) = true → X i) {β : Env} {tmps : Array Value} {w : World} (hI : Inv b nx K Sl Hs dr ro B X β tmps w) (hsz : tmps.size = n)
    {o : Oper} {csz : ι → List Prop} {drz : ι → DR} (ho : ops[m + j]? = some o) (hgn : o.guard = none) (hc : ∀ z, All (csz z)) (hrt : ∀ z, rtGet (nx + j) (tb z) = some (c.outs (out z))) (hd : ∀ z, dopR (Pinned B) P M ro ops (tb z) b K (nx + b * K) (nx + j) o (Sl j) (Hs j) = some (csz z, drz z)) (hd0 : drz z0 = dr j) (fb : Frame) (k : List Item) (fs : List Frame) (r : List Nat) :
    ∃ (z : ι) (β' : Env) (w' : World) (v : Value) (B' : Base) (K' : Kn), ψ z K' ∧ Did (Hs j) β (drz z) (fun i => ∃ k, k < K ∧ i = nx + j + k * b) w β' w' ∧ Rel β' (drz z).v v ∧
      Fz B K0 M0 B' K' ∧ B'.pin = B.pin ∧ B'.w = w' ∧ (∀ i so bl, hget i (drz z).wh = some so → so.Live → β' i = some bl → B'.D bl = none) ∧ (∀ bl o, B'.D bl = some o → w'.heap[bl]? = some o) ∧
      (∀ bl o, B.D bl = none → w.heap[bl]? = some o → (∀ t s, t ∈ (drz z).mod → hget t (Hs j) = some s → s.Live → β t = some bl → False) → B'.D bl = none) ∧
      Steps P (lone (fb.atR ⟨tmps, dd⟩ (.inRegion ops ((m + j) :: r) :: k)) fs w) (lone (fb.atR (Act.put ⟨tmps, dd⟩ o.dst v) (.inRegion ops r :: k)) fs w') := by
  have hltj := chain_lt hch h0 j (by omega)
  have key : ∃ slv hpv gf gb as cs0 cs1, thin (opSlots ops o) (Sl j) = some slv ∧ thinH c.sg (Hs j) = some hpv ∧ callee P slv o.op = some (cs0, c.g, gf, gb, as) ∧ rcConds (Pinned B) c (nx + b * K) ro hpv as = some cs1 ∧ (All cs0 ∧ All cs1) ∧
      ∀ z, rcChk (c.outs (out z)) b K (nx + b * K) c.g = true ∧ drz z = ⟨opSlots ops o, o.dst, c.sg, renH' (nx + b * K) ((c.outs (out z)).names b (nx + j)) [] (out z).hp, (hkeys c.hpc).map (sig (nx + b * K) c.sg), ren (nx + b * K) ((c.outs (out z)).names b (nx + j)) (out z).r⟩ := by
    have one : ∀ z, ∃ slv hpv gf gb as cs0 cs1, thin (opSlots ops o) (Sl j) = some slv ∧ thinH c.sg (Hs j) = some hpv ∧ callee P slv o.op = some (cs0, c.g, gf, gb, as) ∧ rcConds (Pinned B) c (nx + b * K) ro hpv as = some cs1 ∧ (All cs0 ∧ All cs1) ∧
      rcChk (c.outs (out z)) b K (nx + b * K) c.g = true ∧ drz z = ⟨opSlots ops o, o.dst, c.sg, renH' (nx + b * K) ((c.outs (out z)).names b (nx + j)) [] (out z).hp, (hkeys c.hpc).map (sig (nx + b * K) c.sg), ren (nx + b * K) ((c.outs (out z)).names b (nx + j)) (out z).r⟩ := by
      intro z
      have hd := hd z
      have hc := hc z
      unfold dopR at hd
      rw [hrt z] at hd
      simp only at hd
      split at hd <;> first | exact (none_ne hd).elim | skip
      rename_i slv e1
      split at hd <;> first | exact (none_ne hd).elim | skip
      rename_i hpv e2
      split at hd <;> first | exact (none_ne hd).elim | skip
      rename_i gd cs0 g gf gb as eg e3
      obtain ⟨hb, hd2⟩ := bif_some' hd
      clear hd
      have hd := hd2
      clear hd2
      have hgeq : g = c.g := by
        unfold rcChk at hb
        simp only [Bool.and_eq_true] at hb
        exact beq_nat hb.1.1.1.1.1.1
      subst hgeq
      split at hd <;> first | exact (none_ne hd).elim | skip
      rename_i cs1 e4
      have egn : gd = none := by
        have : guardIn ops slv o = some .run := by unfold guardIn; rw [hgn]
        unfold guardC at eg
        rw [this] at eg
        simpa using eg.symm
      subst egn
      simp only at hd
      rw [renF_eq, renH_eq] at hd
      simp only [Option.some.injEq, Prod.mk.injEq] at hd
      obtain ⟨hd1, hd2⟩ := hd
      rw [← hd1] at hc
      refine ⟨slv, hpv, gf, gb, as, cs0, cs1, e1, e2, e3, e4, ⟨hc.left, hc.right⟩, hb, ?_⟩
      rw [← hd2, sigL_eq]
    obtain ⟨slv, hpv, gf, gb, as, cs0, cs1, e1, e2, e3, e4, e5, _⟩ := one z0
    refine ⟨slv, hpv, gf, gb, as, cs0, cs1, e1, e2, e3, e4, e5, fun z => ?_⟩
    obtain ⟨_, _, _, _, _, _, _, _, _, _, _, _, q1, q2⟩ := one z
    exact ⟨q1, q2⟩
  obtain ⟨slv, hpv, gf, gb, as, cs0, cs1, e1, e2, e3, e4, ⟨a0, a1⟩, hz⟩ := key
  have hrs : (dr j).rs = opSlots ops o ∧ (dr j).rh = c.sg := by rw [← hd0, (hz z0).2]; exact ⟨rfl, rfl⟩
  have hrho := rho_view (dd := dd) hch hin hX' hj hjX hpre hI e1 hrs.1
  have hlt : ∀ t v, look t slv = some v → t < tmps.size := by
    intro t v hv
    rw [thin_get e1 t] at hv
    split at hv
    · rw [hsz]; exact hltj t v hv
    · cases hv
  have g2 := thinH_get e2
  have hview : ∀ t s, hget t hpv = some s → hget t (Hs j) = some s := by
    intro t s hs
    rw [g2 t] at hs
    split at hs
    · exact hs
    · cases hs
  have rdH : ∀ {t}, t ∈ c.sg → ∀ s, hget t (Hs j) = some s → ∃ kk, LastH b dr X t kk ∧ hget t (Hs kk) = some s := by
    intro t ht s hs
    obtain ⟨kk, k1, k2⟩ := read_heap hch hin hX' hj hjX hpre (t := t) (by rw [hrs.2]; exact ht)
    exact ⟨kk, k1, by rw [k2]; exact hs⟩
  have hsat : Sat β hpv ro B (nx + b * K) w := by
    refine ⟨⟨?_, ?_, hI.read, hI.old, hI.os, hI.tape, hI.output, hI.size, hI.pin⟩, ?_⟩
    · intro i s hi hlive
      rw [g2 i] at hi
      split at hi
      · rename_i hm
        obtain ⟨kk, k1, k2⟩ := rdH (hasN_mem.1 hm) s hi
        exact hI.H i kk s k1 k2 hlive
      · cases hi
    · intro i i' s s' hi hi' ls ls' hne
      rw [g2 i] at hi
      rw [g2 i'] at hi'
      split at hi
      · rename_i hm
        split at hi'
        · rename_i hm'
          obtain ⟨kk, k1, k2⟩ := rdH (hasN_mem.1 hm) s hi
          obtain ⟨kk', k1', k2'⟩ := rdH (hasN_mem.1 hm') s' hi'
          exact hI.A i kk s i' kk' s' k1 k2 k1' k2' ls ls' hne
        · cases hi'
      · cases hi
    · intro i hi
      cases hb' : β i with
      | none => rfl
      | some bl =>
        rcases hI.F _ bl hb' with h | ⟨j', c', h1, h2, h3⟩
        · have := Nat.le_add_right nx (b * K); omega
        · have h4 : (c' + 1) * b ≤ K * b := Nat.mul_le_mul_right b h2
          rw [Nat.add_mul, Nat.mul_comm K b] at h4
          have := hX'.lt j' h1
          omega
  have hfresh : ∀ k, β (nx + j + k * b) = none := fun k => inv_fresh hX' hj hjX hI k
  obtain ⟨hfn, hbd, vs, hl, hrun⟩ := callee_run (w := w) hP hrho e3 a0
  have hgd : guardIn ops slv o = some .run := by unfold guardIn; rw [hgn]
  have hw := guard_rel hgd hsz hrho.slot hlt
  have hst := op_enter (P := P) (b := fb) (a := ⟨tmps, dd⟩) (k := k) (cs := fs) (w := w) (ops := ops) (i := m + j) (rest := r) ho hw hrun
  have hcall := call_didX (ro := ro) (B := B) (b := b) (K := K) (d := drz) hkn z0 hHC hlc hno (by omega) hQ hview hfresh hsat (fun z => (hz z).1) e4 a1 hl (fun z => by rw [(hz z).2]) (fun z => by rw [(hz z).2]) (fun z => by rw [(hz z).2])
  obtain ⟨e, w', fr', ⟨z, β', u, B', K', rfl, hψ, hdid, hu, hF, p1, p2, p3, p4, p5⟩, hco, _, hlv⟩ := hcall (fb.atR ⟨tmps, dd⟩ (.inRegion ops ((m + j) :: r) :: k) :: fs)
  refine ⟨z, β', w', u, B', K', hψ, hdid, by rw [(hz z).2]; exact hu, hF, p1, p2, p3, p4, p5, (Steps.one hst).trans (Steps.trans hco (.one ?_))⟩
  have hfin : (fb.atR ⟨tmps, dd⟩ (.inRegion ops ((m + j) :: r) :: k)).finish u = fb.atR (Act.put ⟨tmps, dd⟩ o.dst u) (.inRegion ops r :: k) := by rw [Frame.finish_atR, ho]; rfl
  rw [← hfin]
  exact step_leave_returned hlv
end
section
variable {T : List (List Nat)} {ops : Array Oper} {n idn K m b : Nat} {D D' : DRel} {Sl Sl' : Nat → Slots} {Hs Hs' : Nat → Hp} {dr dr' : Nat → DR} {ro : Hp} {B B' : Base}
/-- Two runs of a block that agree up to c. -/
theorem chain_eq (h : Chain D ops n idn m b Sl Hs dr) (h' : Chain D' ops n idn m b Sl' Hs' dr') (e1 : Sl 0 = Sl' 0) (e2 : Hs 0 = Hs' 0) (c : Nat) (hc : c ≤ b) (hd : ∀ j, j < c → dr j = dr' j) : ∀ j, j ≤ c → Sl j = Sl' j ∧ Hs j = Hs' j
  | 0, _ => ⟨e1, e2⟩
  | j + 1, hj => by
    obtain ⟨i1, i2⟩ := chain_eq h h' e1 e2 c hc hd j (by omega)
    obtain ⟨o, cs, a1, a2, a3, a4, a5⟩ := h.step j (by omega)
    obtain ⟨o', cs', b1, b2, b3, b4, b5⟩ := h'.step j (by omega)
    rw [a1] at b1; injection b1 with b1; subst b1
    rw [hd j (by omega), i1] at a4
    rw [hd j (by omega), i2] at a5
    rw [a4] at b4; injection b4 with b4
    rw [a5] at b5; injection b5 with b5
    exact ⟨b4, b5⟩
/-- What holds while a block is under way speaks of the operations that are done alone. -/
theorem inv_chain (h : Chain D ops n idn m b Sl Hs dr) (h' : Chain D' ops n idn m b Sl' Hs' dr') (e1 : Sl 0 = Sl' 0) (e2 : Hs 0 = Hs' 0) {X : Nat → Prop} (hX : Closed T m b X) (hd : ∀ j, X j → dr j = dr' j) {β : Env} {tmps : Array Value} {w : World} (hI : Inv b idn K Sl Hs dr ro B X β tmps w) : Inv b idn K Sl' Hs' dr' ro B X β tmps w := by
  have lS : ∀ {t k}, LastS b dr' X t k → LastS b dr X t k := by
    rintro t k ⟨h1, h2, h3⟩
    refine ⟨h1, ?_, fun i hi he => h3 i hi (by rw [← hd i hi]; exact he)⟩
    rcases h2 with h2 | ⟨h2, h4⟩
    · exact .inl h2
    · exact .inr ⟨h2, by rw [hd _ h2]; exact h4⟩
  have lH : ∀ {t k}, LastH b dr' X t k → LastH b dr X t k := by
    rintro t k ⟨h1, h2, h3⟩
    refine ⟨h1, ?_, fun i hi he => h3 i hi (by rw [← hd i hi]; exact he)⟩
    rcases h2 with h2 | ⟨h2, h4⟩
    · exact .inl h2
    · exact .inr ⟨h2, by rw [hd _ h2]; exact h4⟩
  have sS : ∀ {t k}, LastS b dr' X t k → look t (Sl k) = look t (Sl' k) := by
    rintro t k ⟨h1, h2, h3⟩
    rcases h2 with h2 | ⟨h2, h4⟩
    · subst h2; rw [e1]
    · cases k with
      | zero => rw [e1]
      | succ k =>
        have h2 : X k := h2
        have h4 : (dr' k).dst = some t := h4
        obtain ⟨o, cs, a1, a2, a3, a4, a5⟩ := h.step k (hX.lt k h2)
        obtain ⟨o', cs', b1, b2, b3, b4, b5⟩ := h'.step k (hX.lt k h2)
        rw [a1] at b1; injection b1 with b1; subst b1
        rw [(put_look a4 t).1, (put_look b4 t).1, ← b3.2, if_pos h4, if_pos h4, hd k h2]
  have sH : ∀ {t k}, LastH b dr' X t k → hget t (Hs k) = hget t (Hs' k) := by
    rintro t k ⟨h1, h2, h3⟩
    rcases h2 with h2 | ⟨h2, h4⟩
    · subst h2; rw [e2]
    · cases k with
      | zero => rw [e2]
      | succ k =>
        have h2 : X k := h2
        have h4 : t ∈ (dr' k).mod := h4
        obtain ⟨o, cs, a1, a2, a3, a4, a5⟩ := h.step k (hX.lt k h2)
        obtain ⟨o', cs', b1, b2, b3, b4, b5⟩ := h'.step k (hX.lt k h2)
        rw [hmod_get a5 t, hmod_get b5 t, hd k h2]
        unfold hmodV
        unfold DR.mod at h4
        rw [wkeys_mem] at h4
        rcases h4 with ⟨so, h4⟩ | h4
        · rw [h4]
        · cases hget t (dr' k).wh with
          | some so => rfl
          | none => simp only [if_pos h4]
  exact ⟨fun t k v hL hl => hI.S t k v (lS hL) (by rw [sS hL]; exact hl), fun t k s hL hl => hI.H t k s (lH hL) (by rw [sH hL]; exact hl),
    fun t k s t' k' s' hL hl hL' hl' => hI.A t k s t' k' s' (lH hL) (by rw [sH hL]; exact hl) (lH hL') (by rw [sH hL']; exact hl'), hI.F, hI.read, hI.old, hI.os, hI.tape, hI.output, hI.size, hI.pin⟩
/-- On another base. -/
theorem inv_base {X : Nat → Prop} {β : Env} {tmps : Array Value} {w : World} (hI : Inv b idn K Sl Hs dr ro B X β tmps w) (h1 : ∀ t k s bl, LastH b dr X t k → hget t (Hs k) = some s → s.Live → β t = some bl → B'.D bl = none)
    (h2 : ∀ bl o, B.D bl = some o → B'.D bl = some o) (h3 : ∀ bl o, B'.D bl = some o → w.heap[bl]? = some o) (h4 : B'.w = w) (h5 : B'.pin = B.pin) : Inv b idn K Sl Hs dr ro B' X β tmps w := by
  refine ⟨hI.S, fun t k s hL hl hlive => ?_, hI.A, hI.F, fun i s hi hl => ?_, h3, by rw [h4], by rw [h4], by rw [h4], by rw [h4]; exact Nat.le_refl _, by rw [h5]; exact hI.pin⟩
  · obtain ⟨bl, o, q1, q2, q3⟩ := hI.H t k s hL hl hlive
    exact ⟨bl, o, q1, h1 t k s bl hL hl hlive q1, q3⟩
  · obtain ⟨bl, o, q1, q2, q3⟩ := hI.read i s hi hl
    exact ⟨bl, o, q1, h2 bl o q2, q3⟩
end
theorem inT_lt {ops : Array Oper} {T : List (List Nat)} (hT : TOk ops T) : ∀ (N j : Nat), j ≤ N → j < ops.size → ∀ i, inT T i j = true → i < j
  | N, j, hN, hj, i, hi => by
    obtain ⟨l, h1, h2, h3⟩ := hT.row j ops[j] (Array.getElem?_eq_getElem hj)
    obtain ⟨l', g1, g2⟩ := inT_spec.1 hi
    rw [h1] at g1; injection g1 with g1; subst g1
    rcases h3 i g2 with h | ⟨p, h4, q, h5, h6⟩
    · exact h2 i h
    · have hp := h2 p h4
      cases N with
      | zero => omega
      | succ N =>
        have := inT_lt hT N p (by omega) (by omega) i (inT_spec.2 ⟨q, h5, h6⟩)
        omega
section
variable {P : Program} {M : Mode} {ro : Hp} {B : Base} {f : FuncId} {R : Ending → World → Prop}
/-- A block of b operations from the m-th on, in whatever order: J is kept; it ends on another base. -/
theorem run_drawJX (b : Nat) {fn : FId} {n : Nat} {sl : Slots} {ops : Array Oper} {m t : Nat} {k : List SI} {rest : List SFr} {hp : Hp} {nx : Nat} {T : List (List Nat)} {dst : Nat → Option Tmp} {J : (Nat → Prop) → Env → Array Value → World → Prop}
    (hT : closeGo [] ops.toList = some T) (hle : Nat.ble (m + b) ops.size = true) (hbar : barAll T m b (m + b) (ops.size - (m + b)) = true)
    (hj0 : ∀ β tmps w, (∀ t v, look t sl = some v → Rel β v (tmps.getD t undef)) → Sat β hp ro B nx w → J (fun _ => False) β tmps w)
    (hjs : (∀ t v, look t sl = some v → t < n) → ∀ dd fb k fs, StepJ P ops T n m b dst dd fb k fs J)
    (hj1 : ∀ β tmps w, J (fun i => i < b) β tmps w → ∃ (sl' : Slots) (hp' : Hp) (B' : Base) (nx' : Nat), B'.kd = B.kd ∧ (∀ t v, look t sl' = some v → Rel β v (tmps.getD t undef)) ∧ Sat β hp' ro B' nx' w ∧ ((∀ t v, look t sl = some v → t < n) → ∀ t v, look t sl' = some v → t < n) ∧
      ∀ t, Run P ro B' f R ⟨⟨fn, n, sl', .reg ops (m + b) [] (some (goF ops (m + b) t)) :: k⟩, rest, hp', nx'⟩) : Run P ro B f R ⟨⟨fn, n, sl, .reg ops m [] (some (goF ops m t)) :: k⟩, rest, hp, nx⟩ := by
  have hle := ble_nat hle
  have hbar' : ∀ y, m + b ≤ y → y < ops.size → ∀ i, i < b → inT T (m + i) y = true := fun y h1 h2 i hi => barAll_spec hbar y h1 (by omega) i hi
  intro β w fr frs cs' hf hfs hs hcs
  have hX0 : (fun i => i < b ∧ (listedTo ops.size m).getD (m + i) false = true) = fun _ => False := by
    funext i; apply propext
    constructor
    · rintro ⟨h3, h4⟩
      rw [listedTo_get] at h4; split at h4 <;> simp at h4 <;> omega
    · exact False.elim
  have hI : J (fun i => i < b ∧ (listedTo ops.size m).getD (m + i) false = true) β fr.tmps w := by rw [hX0]; exact hj0 β fr.tmps w hf.slot hs
  obtain ⟨t', β', tmps', w', s1, s2, s3, s4⟩ := blk_anyJ (dd := fr.defers) (tok_of hT) hle hbar' fr (k.map SI.item) (frs ++ cs') (hjs hf.lt fr.defers fr (k.map SI.item) (frs ++ cs')) (ops.size - m) t (listedTo ops.size m) β fr.tmps w (by simp [listedTo])
    (cnt_to _ _ (by omega)) (fun i hi => by rw [listedTo_get, if_pos (by omega)]; simp [hi]) (fun i hi => by rw [listedTo_get]; split <;> simp; omega)
    (fun j o hj ho p hp' => by
      rw [listedTo_get] at hj ⊢
      split at hj
      · simp at hj
        obtain ⟨_, _, g2, _⟩ := (tok_of hT).row j o ho
        have := g2 p hp'
        rw [if_pos (by omega)]; simp; omega
      · cases hj) hI hf.size
  obtain ⟨sl', hp', B', nx', hkd, e1, hmem, hlt, h⟩ := hj1 β' tmps' w' s2
  have key := h t' β' w' (fr.atR ⟨tmps', fr.defers⟩ ((SI.reg ops (m + b) [] (some (goF ops (m + b) t')) :: k).map SI.item)) frs cs' (FrRel.of hf.fn hf.rnd hf.kind (hf.defers.mono s4) s3 e1 (hlt hf.lt) (fun y hy => by
      cases hy with
      | head => intro i hi; simp at hi
      | tail _ hm => exact hf.ok y (List.mem_cons_of_mem _ hm))) (hfs.mono s4) hmem
  rw [hkd] at key
  obtain ⟨e, w2, fr2, hR, hcm, r⟩ := key hcs
  refine ⟨e, w2, fr2, hR, .of_steps ?_ hcm, r⟩
  have := hf.at
  rw [this]
  exact s1
/-- The two lists tell the same of all operations that do not wait for c. -/
def sameAt (T : List (List Nat)) (m c : Nat) : Nat → List DR → List DR → Prop
  | _, [], _ => True
  | _, _ :: _, [] => False
  | j, d :: l, d' :: l' => (inT T (m + c) (m + j) = true ∨ Nat.beq j c = true ∨ d = d') ∧ sameAt T m c (j + 1) l l'
theorem sameAt_spec {T : List (List Nat)} {m c : Nat} : ∀ {l l' : List DR} {i : Nat}, sameAt T m c i l l' → ∀ (k : Nat) (d d' : DR), l[k]? = some d → l'[k]? = some d' → inT T (m + c) (m + (i + k)) = false → i + k ≠ c → d = d'
  | [], _, i, _, k, d, d', h, _, _, _ => by simp at h
  | x :: l, [], i, h, _, _, _, _, _, _, _ => h.elim
  | x :: l, y :: l', i, h, 0, d, d', h1, h2, h3, h4 => by
    simp at h1 h2; subst h1 h2
    rcases h.1 with q | q | q
    · rw [Nat.add_zero] at h3; rw [h3] at q; cases q
    · exact absurd (beq_nat q) h4
    · exact q
  | x :: l, y :: l', i, h, k + 1, d, d', h1, h2, h3, h4 =>
    sameAt_spec h.2 k d d' (by simpa using h1) (by simpa using h2) (by rw [show i + 1 + k = i + (k + 1) by omega]; exact h3) (by omega)
/-- A block of b operations from the m-th on, in whatever order; the c-th is a call that may leave blocks behind that are written no more. -/
theorem run_drawXq {ι : Type} {K0 : Kn} (hkn : ∀ b o, K0 b = some o → B.D b = some o) (K b : Nat) (hK : Nat.ble 1 K = true) (hP : Named P) (hB : B.ok) (hM : SumOk P M.sum) {fn : FId} {n : Nat} {sl : Slots} {ops : Array Oper} {m t : Nat} {k : List SI} {rest : List SFr} {hp : Hp} {nx nx' : Nat} {T : List (List Nat)}
    (c : Nat) (rc : RC) {ψ : ι → Kn → Prop} {out : ι → Out} (z0 : ι) {Q : Env → Prop} (hQ : ∀ β : Env, B.pin.le β → Q (β.via (nx + b * K) rc.sg)) (hHC : HCXq P K0 Q rc.g rc.xs rc.hpc rc.roc rc.nxc ψ out) (hlc : rc.sg.length = rc.nxc) (hno : ∀ z, rc.nxc ≤ (out z).nx) (tb : RT) (htb : rtOkK P K0 tb)
    {cs : ι → List Prop} {sl' : ι → Slots} {hp' : ι → Hp} {l : ι → List DR}
    (hT : closeGo [] ops.toList = some T) (hN : natF (nx + b * K) some = some nx') (hb : ∀ z, dblkG (dopR (Pinned B) P M ro ops ((nx + c, rc.outs (out z)) :: tb) b K nx') n ((ops.toList.drop m).take b) nx sl hp [] = some (cs z, sl' z, hp' z, l z)) (hle : Nat.ble (m + b) ops.size = true) (hi : ∀ z, indepAll T m (l z) = true)
    (hbar : barAll T m b (m + b) (ops.size - (m + b)) = true) (hcb : Nat.blt c b = true) (hng : (ops[m + c]?).bind (·.guard) = none) (hsame : ∀ z, sameAt T m c 0 (l z) (l z0)) (hc : ∀ z, conj (cs z))
    (h : ∀ z B' K', ψ z K' → Fz B K0 M0 B' K' → B'.pin = B.pin → ∀ t, Run P ro B' f R ⟨⟨fn, n, sl' z, .reg ops (m + b) [] (some (goF ops (m + b) t)) :: k⟩, rest, hp' z, nx'⟩) : Run P ro B f R ⟨⟨fn, n, sl, .reg ops m [] (some (goF ops m t)) :: k⟩, rest, hp, nx⟩ := by
  rw [natF_eq] at hN
  injection hN with hN; subst hN
  have hK := ble_nat hK
  have hcb : c < b := by rw [Nat.blt_eq] at hcb; exact hcb
  have hle' := ble_nat hle
  have hlen : ((ops.toList.drop m).take b).length = b := by simp; omega
  have chains : ∀ z, ∃ q : (Nat → Slots) × (Nat → Hp) × (Nat → DR), q.1 0 = sl ∧ q.2.1 0 = hp ∧ q.1 b = sl' z ∧ q.2.1 b = hp' z ∧
      Chain (fun idn o sl hp cs d => dopR (Pinned B) P M ro ops ((nx + c, rc.outs (out z)) :: tb) b K (nx + b * K) idn o sl hp = some (cs, d)) ops n nx m b q.1 q.2.1 q.2.2 ∧ (∀ j, j < b → (l z)[j]? = some (q.2.2 j)) := by
    intro z
    obtain ⟨_, Sl, Hs, dr, c1, c2, c3, c4, hch, c5, c6⟩ := dblkG_chain (dopR_dst (pn := Pinned B) (P := P) (M := M) (ro := ro) (ops := ops) (tb := (nx + c, rc.outs (out z)) :: tb) (b := b) (K := K) (N := nx + b * K)) (ops := ops) (m := m) (hb z) (all_conj (hc z)) (fun i hi => by
      rw [hlen] at hi
      rw [List.getElem?_take, if_pos hi, List.getElem?_drop]; simp)
    rw [hlen] at c3 c4 hch c5 c6
    exact ⟨(Sl, Hs, dr), c1, c2, c3, c4, hch, c5⟩
  obtain ⟨q, hq⟩ := Classical.axiomOfChoice chains
  have hin : ∀ z, Indeps T m b (q z).2.2 := fun z i j hij hj hT0 => by
    rcases indepAll_spec (hi z) i j _ _ hij ((hq z).2.2.2.2.2 i (by omega)) ((hq z).2.2.2.2.2 j hj) with h | h
    · rw [h] at hT0; cases hT0
    · exact h
  have tb_other : ∀ z j, j ≠ c → rtGet (nx + j) ((nx + c, rc.outs (out z)) :: tb) = rtGet (nx + j) tb := fun z j hj => by
    simp only [rtGet]
    rw [beq_false_of (by omega)]; rfl
  have tb_c : ∀ z, rtGet (nx + c) ((nx + c, rc.outs (out z)) :: tb) = some (rc.outs (out z)) := fun z => by
    simp only [rtGet, Nat.beq_refl, cond_true]
  have agree : ∀ z j, j < b → j ≠ c → inT T (m + c) (m + j) = false → (q z0).2.2 j = (q z).2.2 j := fun z j hj hjc hT0 => by
    have := sameAt_spec (hsame z) j _ _ ((hq z).2.2.2.2.2 j hj) ((hq z0).2.2.2.2.2 j hj) (by rw [Nat.zero_add]; exact hT0) (by omega)
    exact this.symm
  have hTlt : ∀ j, j < c → inT T (m + c) (m + j) = false := fun j hj => by
    cases hT0 : inT T (m + c) (m + j) with
    | false => rfl
    | true => have := inT_lt (tok_of hT) _ _ (Nat.le_refl _) (by omega) _ hT0; omega
  refine run_drawJX b (dst := fun j => ((q z0).2.2 j).dst) (J := fun X β tmps w => (¬ X c ∧ Inv b nx K (q z0).1 (q z0).2.1 (q z0).2.2 ro B X β tmps w) ∨ (X c ∧ ∃ z B' K', ψ z K' ∧ Fz B K0 M0 B' K' ∧ B'.pin = B.pin ∧ Inv b nx K (q z).1 (q z).2.1 (q z).2.2 ro B' X β tmps w)) hT hle hbar
    (fun β tmps w h1 h2 => .inl ⟨fun h => h, inv_none (fun _ _ _ => trivial) (by rw [(hq z0).1]; exact h1) (by rw [(hq z0).2.1]; exact h2)⟩) ?_ ?_
  · intro hlt dd fb k fs X j hX hj hjX hpre β tmps w hJ hsz r
    have heq : ∀ z, (q z0).1 c = (q z).1 c ∧ (q z0).2.1 c = (q z).2.1 c := fun z =>
      chain_eq (hq z0).2.2.2.2.1 (hq z).2.2.2.2.1 (by rw [(hq z0).1, (hq z).1]) (by rw [(hq z0).2.1, (hq z).2.1]) c (by omega) (fun i hi => agree z i (by omega) (by omega) (hTlt i hi)) c (Nat.le_refl _)
    have hdst : ∀ z, ((q z).2.2 j).dst = ((q z0).2.2 j).dst := fun z => by
      obtain ⟨o, cs1, d1, d2, ⟨d3, d4⟩, d5, d6⟩ := (hq z0).2.2.2.2.1.step j hj
      obtain ⟨o', cs', e1, e2, ⟨e3, e4⟩, e5, e6⟩ := (hq z).2.2.2.2.1.step j hj
      rw [d1] at e1; injection e1 with e1; subst e1
      rw [d4, e4]
    have other : ∀ (z : ι) (B1 : Base), B1.ok → B1.pin = B.pin → (∀ bb o, K0 bb = some o → B1.D bb = some o) → Inv b nx K (q z).1 (q z).2.1 (q z).2.2 ro B1 X β tmps w → j ≠ c →
        ∃ (β' : Env) (w' : World) (v : Value), β.le β' ∧ Inv b nx K (q z).1 (q z).2.1 (q z).2.2 ro B1 (fun i => X i ∨ i = j) β' (Act.put ⟨tmps, dd⟩ ((q z0).2.2 j).dst v).tmps w' ∧
          Steps P (lone (fb.atR ⟨tmps, dd⟩ (.inRegion ops ((m + j) :: r) :: k)) fs w) (lone (fb.atR (Act.put ⟨tmps, dd⟩ ((q z0).2.2 j).dst v) (.inRegion ops r :: k)) fs w') := by
      intro z B1 hB1 hp1 hk1 hI hjc
      have hpn : Pinned B1 = Pinned B := by funext i; unfold Pinned; rw [hp1]
      obtain ⟨o, cs1, d1, d2, ⟨d3, d4⟩, d5, d6⟩ := (hq z).2.2.2.2.1.step j hj
      have d3 : dopR (Pinned B1) P M ro ops tb b K (nx + b * K) (nx + j) o ((q z).1 j) ((q z).2.1 j) = some (cs1, (q z).2.2 j) := by
        rw [hpn, ← dopR_tb (tb_other z j hjc)]; exact d3
      rw [← hdst z]
      cases hrt : rtGet (nx + j) tb with
      | none =>
        have d3' := d3
        unfold dopR at d3'
        rw [hrt] at d3'
        obtain ⟨β1, w1, v, a1, a2, a4⟩ := op_did1 (dd := dd) hP hM (hq z).2.2.2.2.1 (hin z) (by rw [(hq z).1]; exact hlt) hX hj hjX hpre hI hsz d1 d2 d3' fb k fs r
        exact ⟨β1, w1, v, a1.le, inv_step hB1 (hq z).2.2.2.2.1 (hin z) hX hj hjX hpre hI hsz (fun i hi => ⟨0, by omega, by simpa using hi⟩) a1 a2, a4⟩
      | some c' =>
        obtain ⟨β1, w1, v, a1, a2, a4⟩ := rc_did (dd := dd) hP hk1 htb (hq z).2.2.2.2.1 (hin z) (by rw [(hq z).1]; exact hlt) hX hj hjX hpre hI hsz d1 d2 hrt d3 fb k fs r
        exact ⟨β1, w1, v, a1.le, inv_step hB1 (hq z).2.2.2.2.1 (hin z) hX hj hjX hpre hI hsz (fun i hi => hi) a1 a2, a4⟩
    rcases hJ with ⟨hXc, hI⟩ | ⟨hXc, z, B', K', hψ, hF, hpin, hI⟩
    · by_cases hjc : j = c
      · subst hjc
        obtain ⟨o, cs1, d1, d2, ⟨d3, d4⟩, d5, d6⟩ := (hq z0).2.2.2.2.1.step j hj
        have hgn : o.guard = none := by rw [d1] at hng; simpa using hng
        have hz : ∀ z, ∃ csz : List Prop, All csz ∧ dopR (Pinned B) P M ro ops ((nx + j, rc.outs (out z)) :: tb) b K (nx + b * K) (nx + j) o ((q z0).1 j) ((q z0).2.1 j) = some (csz, (q z).2.2 j) := by
          intro z
          obtain ⟨o', cs', e1, e2, ⟨e3, e4⟩, e5, e6⟩ := (hq z).2.2.2.2.1.step j hj
          rw [d1] at e1; injection e1 with e1; subst e1
          rw [(heq z).1, (heq z).2]
          exact ⟨cs', e2, e3⟩
        obtain ⟨csz, hcsz⟩ := Classical.axiomOfChoice hz
        obtain ⟨z, β1, w1, v, B', K', a1, a2, a3, a4, a5, a6, a7, a8, a9, a10⟩ := rcx_did (dd := dd) hP hkn z0 hQ hHC hlc hno (tb := fun z => (nx + j, rc.outs (out z)) :: tb) (hq z0).2.2.2.2.1 (hin z0) (by rw [(hq z0).1]; exact hlt) hX hj hjX hpre hI hsz d1 hgn (fun z => (hcsz z).1) tb_c (fun z => (hcsz z).2) rfl fb k fs r
        have hch := (hq z).2.2.2.2.1
        have hIz := inv_chain (hq z0).2.2.2.2.1 hch (by rw [(hq z0).1, (hq z).1]) (by rw [(hq z0).2.1, (hq z).2.1]) hX (fun i hi => agree z i (hX.lt i hi) (fun e => hXc (e ▸ hi)) (by
          cases hT0 : inT T (m + j) (m + i) with
          | false => rfl
          | true => exact absurd (hX.down j i hi hj hT0) hXc)) hI
        rw [(heq z).2] at a2 a9
        have hI2 := inv_step (dd := dd) hB hch (hin z) hX hj hjX hpre hIz hsz (fun i hi => hi) a2 a3
        rw [hdst z, d4] at hI2
        refine ⟨β1, w1, v, a2.le, .inr ⟨.inr rfl, z, B', K', a1, a4, a5, ?_⟩, ?_⟩
        · show Inv b nx K (q z).1 (q z).2.1 (q z).2.2 ro B' (fun i => X i ∨ i = j) β1 (Act.put ⟨tmps, dd⟩ ((q z0).2.2 j).dst v).tmps w1
          rw [d4]
          refine inv_base hI2 (fun t k' s bl hL hl hlive hb1 => ?_) (fun bl o' h => a4.keep bl o' h (fun h => h)) a8 a6 a5
          rcases lastH_after (hin z) hX hj hjX hL with ⟨g1, rfl⟩ | ⟨g1, g2⟩
          · obtain ⟨o', cs', e1, e2, ⟨e3, e4⟩, e5, e6⟩ := hch.step j hj
            have hg := hmod_get e6 t
            unfold hmodV at hg
            rw [hl] at hg
            unfold DR.mod at g1
            rw [wkeys_mem] at g1
            cases hw : hget t ((q z).2.2 j).wh with
            | none =>
              rw [hw] at g1 hg
              simp only at hg
              rcases g1 with ⟨_, g1⟩ | g1
              · cases g1
              · rw [if_pos g1] at hg; cases hg
            | some so =>
              rw [hw] at hg
              injection hg with hg; subst hg
              exact a7 t s bl hw hlive hb1
          · obtain ⟨bl', o', q1, q2, q3, _⟩ := hIz.H t k' s g2 hl hlive
            have e := a2.le _ _ q1
            rw [hb1] at e; injection e with e; subst e
            refine a9 bl o' q2 q3 (fun t' s' m1 m2 m3 m4 => ?_)
            rcases a2.sub t' m1 with h5 | h5
            · obtain ⟨cc, _, rfl⟩ := h5
              rw [inv_fresh hX hj hjX hIz cc] at m4; cases m4
            · obtain ⟨kk, k1, k2⟩ := read_heap hch (hin z) hX hj hjX hpre h5
              exact hIz.A t' kk s' t k' s k1 (by rw [k2]; exact m2) g2 hl m3 hlive (fun e => g1 (e ▸ m1)) (m4.trans q1.symm)
        · show Steps P _ (lone (fb.atR (Act.put ⟨tmps, dd⟩ ((q z0).2.2 j).dst v) (.inRegion ops r :: k)) fs w1)
          rw [d4]; exact a10
      · obtain ⟨β1, w1, v, a1, a2, a3⟩ := other z0 B hB rfl hkn hI hjc
        exact ⟨β1, w1, v, a1, .inl ⟨fun h => h.elim hXc (fun e => hjc e.symm), a2⟩, a3⟩
    · have hjc : j ≠ c := fun e => hjX (e ▸ hXc)
      obtain ⟨β1, w1, v, a1, a2, a3⟩ := other z B' hF.ok hpin (fun bb o e => hF.le bb o (hF.old bb o e (fun h => h))) hI hjc
      exact ⟨β1, w1, v, a1, .inr ⟨.inl hXc, z, B', K', hψ, hF, hpin, a2⟩, a3⟩
  · rintro β tmps w (⟨h1, _⟩ | ⟨_, z, B', K', h1, h2, h3, hI⟩)
    · exact absurd hcb h1
    · obtain ⟨g1, g2⟩ := inv_all (hq z).2.2.2.2.1 hI
      rw [(hq z).2.2.1] at g1
      rw [(hq z).2.2.2.1] at g2
      exact ⟨sl' z, hp' z, B', nx + b * K, h2.kd, g1, g2, fun hlt => by rw [← (hq z).2.2.1]; exact chain_lt (hq z).2.2.2.2.1 (by rw [(hq z).1]; exact hlt) b (Nat.le_refl _), h z B' K' h1 h2 h3⟩
end
end Sx
end
section
namespace Sx
open Go
section
variable {ι : Type}
section
variable {P : Program} {ro : Hp} {B : Base} {f : FuncId} {R : Ending → World → Prop}
/-- A name that is pinned to the block of a slice that is known. -/
theorem run_know (t j : Nat) {v : Value} {b m room : Nat} {fn : FId} {n : Nat} {sl : Slots} {td : List SI} {rest : List SFr} {hp : Hp} {nx : Nat} (ht : look t sl = some (.val v)) (hv : v = .slice (some ⟨b, 0, none⟩) m room) (hm : m ≤ room) (hj : B.pin j = some b)
    (hr : Run P ro B f R ⟨⟨fn, n, (t, .sq j 0 0 1 m .no) :: sl, td⟩, rest, hp, nx⟩) : Run P ro B f R ⟨⟨fn, n, sl, td⟩, rest, hp, nx⟩ := by
  intro β w fr frs cs hf hfs hs hcs
  refine hr β w fr frs cs ?_ hfs hs hcs
  have e : fr.tmps.getD t undef = v := (hf.slot t _ ht).1
  refine { hf with slot := fun t' u hu => ?_, lt := fun t' u hu => ?_ }
  · simp only [look] at hu
    cases hb : Nat.beq t' t with
    | true =>
      rw [hb] at hu; simp only [cond_true, Option.some.injEq] at hu; subst hu
      have := beq_nat hb; subst this
      rw [e]
      exact ⟨some ⟨b, 0, none⟩, room, hv, fun h => (by cases h), fun h => (by cases h), fun h => (by cases h), fun _ => ⟨hm, b, hs.pin _ _ hj, by simp, fun h => (by cases h)⟩⟩
    | false => rw [hb] at hu; exact hf.slot t' u hu
  · simp only [look] at hu
    cases hb : Nat.beq t' t with
    | true => have := beq_nat hb; subst this; exact hf.lt t' _ ht
    | false => rw [hb] at hu; exact hf.lt t' u hu
end
/-- Without a block. -/
def offK (K : Kn) (b : Nat) : Kn := fun x => if x = b then none else K x
def thawB (B : Base) (b nx : Nat) : Base := ⟨fun x => if x = b then none else B.D x, B.w, B.pin.add nx b 0, B.kd⟩
section
variable {P : Program} {ro : Hp} {B : Base} {f : FuncId} {R : Ending → World → Prop}
/-- A known block is taken up: it may be changed under the name nx. -/
theorem run_thaw {K : Kn} (hB : B.ok) (hK : ∀ x o, K x = some o → B.D x = some o) {b : Nat} {c : Array Value} {ty : TypeId} {m : Nat} {g : Nat → Nat → SV} (hb : K b = some (.cells c ty (0, 0))) (hm : m ≤ c.size) (hg : ∀ i, i < m → ∃ u, c[i]? = some u ∧ Rel Env.nil (g i 0) u) {np : Nat} (hpin : PinTo B np)
    (hro : ∀ i s, hget i ro = some s → s.Live → ∃ b', B.pin i = some b' ∧ b' ≠ b) {fn : FId} {n : Nat} {sl : Slots} {td : List SI} {rest : List SFr} {hp : Hp} {nx : Nat} (hnp : np ≤ nx)
    (hr : (thawB B b nx).ok → (∀ x o, offK K b x = some o → (thawB B b nx).D x = some o) → PinTo (thawB B b nx) (nx + 1) → Run P ro (thawB B b nx) f R ⟨⟨fn, n, sl, td⟩, rest, (nx, .row 0 m m 1 g ty) :: hp, nx + 1⟩) : Run P ro B f R ⟨⟨fn, n, sl, td⟩, rest, hp, nx⟩ := by
  intro β w fr frs cs hf hfs hs hcs
  have hfr := hs.fresh nx (Nat.le_refl _)
  have hle : β.le (β.add nx b 0) := Env.le_add hfr
  have hne : ∀ i b', β i = some b' → i ≠ nx := by
    intro i b' h e; subst e; rw [hfr] at h; cases h
  have hDb : B.D b = some (.cells c ty (0, 0)) := hK _ _ hb
  have hpf : B.pin nx = none := hpin.p nx hnp
  refine hr (fun x o hx => ?_) (fun x o hx => ?_) ⟨fun i hi => ?_, hpin.k⟩ (β.add nx b 0) w fr frs cs (hf.mono hle) (hfs.mono hle) ⟨⟨fun i s hi hl => ?_, fun i j s t hi hj hl ht hij => ?_, fun i s hi hl => ?_, fun x o hx => ?_, hs.os, hs.tape, hs.output, hs.size, ?_⟩, fun i hi => ?_⟩ hcs
  · have hx : (if x = b then none else B.D x) = some o := hx
    split at hx
    · cases hx
    · exact hB x o hx
  · have hx : (if x = b then none else K x) = some o := hx
    show (if x = b then none else B.D x) = some o
    split at hx
    · cases hx
    · rename_i h; rw [if_neg h]; exact hK x o hx
  · show (B.pin.add nx b 0) i = none
    rw [Env.add_other _ _ _ (by omega)]
    exact hpin.p i (by omega)
  · simp only [hget] at hi
    cases hbe : Nat.beq i nx with
    | true =>
      rw [hbe] at hi; simp only [cond_true, Option.some.injEq] at hi; subst hi
      have := beq_nat hbe; subst this
      refine ⟨b, _, Env.add_same _ _ _ _, by show (if b = b then none else B.D b) = none; rw [if_pos rfl], hs.old b _ hDb, ⟨c, (0, 0), ty, .inr rfl, rfl, Nat.le_refl _, by omega, fun i k hi hk => ?_⟩, ⟨rfl, by rw [Env.add_room]; exact Nat.zero_le _⟩⟩
      obtain ⟨u, hu, hrl⟩ := hg i hi
      have hk0 : k = 0 := by omega
      subst hk0
      exact ⟨u, by simpa using hu, Rel.mono (Env.nil_le _) _ _ hrl⟩
    | false =>
      rw [hbe] at hi
      obtain ⟨b', o', h1, h2, h3, h4, h5⟩ := hs.own i s hi hl
      have hn := hne i b' h1
      refine ⟨b', o', (Env.add_other _ _ _ hn).trans h1, ?_, h3, ORel.mono hle _ _ h4, by rw [Env.add_room_other _ _ _ hn]; exact h5⟩
      show (if b' = b then none else B.D b') = none
      split
      · rfl
      · exact h2
  · have key : ∀ i s, hget i ((nx, SO.row 0 m m 1 g ty) :: hp) = some s → s.Live → (i = nx ∧ (β.add nx b 0) i = some b) ∨ (i ≠ nx ∧ hget i hp = some s ∧ ∃ b' : Nat, β i = some b' ∧ B.D b' = none ∧ (β.add nx b 0) i = some b') := by
      intro i s hi hl
      simp only [hget] at hi
      cases hbe : Nat.beq i nx with
      | true => have := beq_nat hbe; subst this; exact .inl ⟨rfl, Env.add_same _ _ _ _⟩
      | false =>
        rw [hbe] at hi
        obtain ⟨b', o', h1, h2, _⟩ := hs.own i s hi hl
        have hn := hne i b' h1
        exact .inr ⟨hn, hi, b', h1, h2, (Env.add_other _ _ _ hn).trans h1⟩
    rcases key i s hi hl with ⟨e1, e2⟩ | ⟨e1, e2, b1, e3, e4, e5⟩ <;> rcases key j t hj ht with ⟨g1, g2⟩ | ⟨g1, g2, b2, g3, g4, g5⟩
    · exact absurd (e1.trans g1.symm) hij
    · rw [e2, g5]; intro e; injection e with e; subst e; rw [hDb] at g4; cases g4
    · rw [e5, g2]; intro e; injection e with e; subst e; rw [hDb] at e4; cases e4
    · rw [e5, g5, ← e3, ← g3]; exact hs.apart i j s t e2 g2 hl ht hij
  · obtain ⟨b', o', h1, h2, h3⟩ := hs.read i s hi hl
    obtain ⟨b2, q1, q2⟩ := hro i s hi hl
    have := hs.pin _ _ q1
    rw [h1] at this; injection this with this; subst this
    exact ⟨b', o', (Env.add_other _ _ _ (hne i b' h1)).trans h1, by show (if b' = b then none else B.D b') = some o'; rw [if_neg q2]; exact h2, ORel.mono hle _ _ h3⟩
  · have hx : (if x = b then none else B.D x) = some o := hx
    split at hx
    · cases hx
    · exact hs.old x o hx
  · refine ⟨fun i b' hi => ?_, fun i b' hi => ?_⟩
    · have hi : (B.pin.add nx b 0) i = some b' := hi
      by_cases e : i = nx
      · subst e; rw [Env.add_same] at hi ⊢; exact hi
      · rw [Env.add_other _ _ _ e] at hi ⊢; exact hs.pin i b' hi
    · have hi : (B.pin.add nx b 0) i = some b' := hi
      show (β.add nx b 0).room i = (B.pin.add nx b 0).room i
      by_cases e : i = nx
      · subst e; rw [Env.add_room, Env.add_room]
      · rw [Env.add_room_other _ _ _ e, Env.add_room_other _ _ _ e]
        rw [Env.add_other _ _ _ e] at hi
        exact hs.pin.r i b' hi
  · have hi : nx + 1 ≤ i := hi
    rw [Env.add_other _ _ _ (by omega)]; exact hs.fresh i (Nat.le_of_succ_le hi)
/-- The block is known again. -/
theorem run_refreeze {K K5 : Kn} {B5 : Base} {b nx0 : Nat} (hB : B.ok) (hK : ∀ x o, K x = some o → B.D x = some o) (hb : K b ≠ none) (hpn : B.pin nx0 = none) (hF : Fz (thawB B b nx0) (offK K b) M0 B5 K5) (hp5 : B5.pin = (thawB B b nx0).pin) {m : Nat} {g : Nat → Nat → SV} {ty : TypeId} (hm : 0 < m) (hty : Nat.beq ty anyTy = false) (hcl : ∀ i, i < m → (g i 0).closed = true)
    {fn : FId} {n : Nat} {sl : Slots} {td : List SI} {rest : List SFr} {hp hp' : Hp} {nx : Nat} (hi : hget nx0 hp = some (.row 0 m m 1 g ty)) (hd : hdrop [nx0] hp some = some hp')
    (hr : ∀ (c : Array Value) (B6 : Base) (K6 : Kn), K6 b = some (.cells c ty (0, 0)) → m ≤ c.size → (∀ i, i < m → ∃ u, c[i]? = some u ∧ Rel Env.nil (g i 0) u) → (∀ x, x ≠ b → K6 x = K5 x) → Fz B K (fun x => x = b) B6 K6 → B6.pin = B.pin → Run P ro B6 f R ⟨⟨fn, n, sl, td⟩, rest, hp', nx⟩) : Run P ro B5 f R ⟨⟨fn, n, sl, td⟩, rest, hp, nx⟩ := by
  intro β w fr frs cs hf hfs hs hcs
  rw [hdrop_eq] at hd
  injection hd with hd; subst hd
  obtain ⟨b', o, h1, h2, h3, h4, h5⟩ := hs.own nx0 _ hi hm
  have hbp : B5.pin nx0 = some b := by rw [hp5]; exact Env.add_same _ _ _ _
  have := hs.pin _ _ hbp
  rw [h1] at this; injection this with this; subst this
  obtain ⟨c, fz, tt, q1, q2, q3, q4, q5⟩ := h4
  subst q2
  have hfz : fz = (0, 0) := h5.l
  subst hfz
  have htt : ty = tt := by
    rcases q1 with q | q
    · rw [hty] at q; cases q
    · exact q
  subst htt
  have own' : ∀ j s, hget j (hdrop' [nx0] hp) = some s → hget j hp = some s ∧ j ≠ nx0 := by
    intro j s hj
    rw [hdrop_get] at hj
    split at hj
    · cases hj
    · rename_i hn; exact ⟨hj, fun e => hn (by rw [e]; exact List.mem_singleton.2 rfl)⟩
  let o : Obj := .cells c ty (0, 0)
  let B6 : Base := ⟨fun x => if x = b' then some o else B5.D x, w, B.pin, B5.kd⟩
  let K6 : Kn := fun x => if x = b' then some o else K5 x
  have hple : B.pin.le β := by
    have hp : (B.pin.add nx0 b' 0).le β := by have := hs.pin; rw [hp5] at this; exact this
    exact Env.le_trans (Env.le_add hpn) hp
  have hF6 : Fz B K (fun x => x = b') B6 K6 := by
    refine ⟨fun x o' hx => ?_, hF.kd, Env.le_refl _, hs.os.trans hF.os, hs.tape.trans hF.tape, hs.output.trans hF.output, Nat.le_trans hF.size hs.size, fun x o' hx hn => ?_, fun x o' hx => ?_, fun x o' hx hn => ?_, fun x o' hx => ?_⟩
    · have hx : (if x = b' then some o else B5.D x) = some o' := hx
      split at hx
      · rename_i e; subst e; exact (Array.getElem?_eq_some_iff.1 h3).1
      · exact Nat.lt_of_lt_of_le (hF.ok x o' hx) hs.size
    · show (if x = b' then some o else B5.D x) = some o'
      have hn : ¬ x = b' := hn
      rw [if_neg hn]
      exact hF.keep x o' (by show (if x = b' then none else B.D x) = some o'; rw [if_neg hn]; exact hx) (fun h => h)
    · have hx : (if x = b' then some o else K5 x) = some o' := hx
      show (if x = b' then some o else B5.D x) = some o'
      split at hx
      · rename_i e; rw [if_pos e]; exact hx
      · rename_i e; rw [if_neg e]; exact hF.le x o' hx
    · show (if x = b' then some o else K5 x) = some o'
      have hn : ¬ x = b' := hn
      rw [if_neg hn]
      exact hF.old x o' (by show (if x = b' then none else K x) = some o'; rw [if_neg hn]; exact hx) (fun h => h)
    · have hx : (if x = b' then some o else K5 x) = some o' := hx
      split at hx
      · rename_i e; subst e; exact .inl hb
      · rename_i e
        rcases hF.new x o' hx with h | h
        · left
          have h : (if x = b' then none else K x) ≠ none := h
          rw [if_neg e] at h; exact h
        · right
          have h : (if x = b' then none else B.D x) = none := h
          rw [if_neg e] at h; exact h
  refine hr c B6 K6 (if_pos rfl) (by omega) (fun i hi => ?_) (fun x hx => if_neg hx) hF6 rfl β w fr frs cs hf hfs ⟨⟨fun j s hj hl => ?_, fun j k s u hj hk => hs.apart j k s u (own' j s hj).1 (own' k u hk).1, fun j s hj hl => ?_, fun x o' hx => ?_, rfl, rfl, rfl, Nat.le_refl _, hple⟩, hs.fresh⟩ hcs
  · obtain ⟨u, hu, hrl⟩ := q5 i 0 hi (by omega)
    exact ⟨u, by simpa using hu, Rel.closed _ _ (hcl i hi) hrl⟩
  · obtain ⟨hj, hne⟩ := own' j s hj
    obtain ⟨bj, oj, j1, j2, j3, j4, j5⟩ := hs.own j s hj hl
    refine ⟨bj, oj, j1, ?_, j3, j4, j5⟩
    show (if bj = b' then some o else B5.D bj) = none
    rw [if_neg, j2]
    intro e
    exact hs.apart j nx0 s _ hj hi hl hm hne (by rw [j1, h1, e])
  · obtain ⟨bj, oj, j1, j2, j3⟩ := hs.read j s hj hl
    refine ⟨bj, oj, j1, ?_, j3⟩
    show (if bj = b' then some o else B5.D bj) = some oj
    rw [if_neg]
    · exact j2
    · intro e; subst e; rw [h2] at j2; cases j2
  · have hx : (if x = b' then some o else B5.D x) = some o' := hx
    by_cases e : x = b'
    · rw [if_pos e] at hx
      injection hx with hx
      rw [e, ← hx]; exact h3
    · rw [if_neg e] at hx; exact hs.old x o' hx
end
end
end Sx
end
section
namespace Sx
open Go
theorem Sat.calledK {β : Env} {hp ro hpc roc : Hp} {B : Base} {nx : Nat} {w : World} (hs : Sat β hp ro B nx w) (hB : B.ok) {sg : List Nat} {ds es : List Prop}
    (hlt : allLt nx sg = true) (hcov : cover (hkeys hpc ++ hkeys roc) sg.length = true) (h2 : hpM nx sg hp hpc = some ds) (h2' : orM nx sg hp ro roc = some es) (h3 : dist nx sg (hkeys hpc ++ hkeys roc) = true) (hds : All ds) (hes : All es) :
    ∃ B1 : Base, B1.ok ∧ (∀ b o, B.D b = some o → B1.D b = some o) ∧ Sat (β.via nx sg) hpc roc B1 sg.length w ∧ ∀ (β2 : Env) (w' : World) (hz : Hp) (nz : Nat), (β.via nx sg).le β2 → Sat β2 hz roc B1 nz w' → sg.length ≤ nz →
      ∃ β'' : Env, β.le β'' ∧ (∀ s v, Rel β2 s v → Rel β'' (ren nx sg s) v) ∧ Sat β'' (renH' nx sg (hdrop' ((hkeys hpc).map (sig nx sg)) hp) hz) ro B (nx + (nz - sg.length)) w' := by
  -- the callee's ground: all that is not handed in
  let foot : Nat → Prop := fun b => ∃ i so s, hget i hpc = some so ∧ hget (sig nx sg i) hp = some s ∧ s.Live ∧ β (sig nx sg i) = some b
  have hD : ∀ (b : Nat), (∃ d : Option Obj, (foot b → d = none) ∧ (¬ foot b → d = w.heap[b]?)) := fun b => by
    by_cases h : foot b
    · exact ⟨none, fun _ => rfl, fun g => absurd h g⟩
    · exact ⟨_, fun g => absurd g h, fun _ => rfl⟩
  have ⟨D, hD⟩ : ∃ D : Nat → Option Obj, ∀ b, (foot b → D b = none) ∧ (¬ foot b → D b = w.heap[b]?) := ⟨fun b => Classical.choose (hD b), fun b => Classical.choose_spec (hD b)⟩
  have hDs : ∀ b o, D b = some o → ¬ foot b ∧ w.heap[b]? = some o := fun b o e => by
    by_cases h : foot b
    · rw [(hD b).1 h] at e; cases e
    · exact ⟨h, by rw [← (hD b).2 h]; exact e⟩
  have hlt' := allLt_spec hlt
  have footD : ∀ b, foot b → B.D b = none := by
    rintro b ⟨i, so, s, _, e1, e2, e3⟩
    obtain ⟨b', o, g1, g2, _⟩ := hs.own _ _ e1 e2
    rw [e3] at g1; injection g1 with g1; subst g1; exact g2
  have hinj : ∀ a b : Nat, sig nx sg a = sig nx sg b → a = b := by
    intro a b e
    rcases Nat.lt_or_ge a sg.length with g | g <;> rcases Nat.lt_or_ge b sg.length with g' | g'
    · by_cases h : a = b
      · exact h
      · exact absurd e (dist_spec h3 (cover_spec hcov a g) (cover_spec hcov b g') h)
    · obtain ⟨j, j1, j2⟩ := sig_lt (nx := nx) g
      have := hlt' _ (List.mem_of_getElem? j1)
      rw [sig_ge g'] at e; omega
    · obtain ⟨j, j1, j2⟩ := sig_lt (nx := nx) g'
      have := hlt' _ (List.mem_of_getElem? j1)
      rw [sig_ge g] at e; omega
    · rw [sig_ge g, sig_ge g'] at e; omega
  have lent : ∀ i so, hget i roc = some so → so.Live → ∃ b o, β (sig nx sg i) = some b ∧ w.heap[b]? = some o ∧ ¬ foot b ∧ ORel (β.via nx sg) so o := by
    intro i so hi hl
    obtain ⟨s, cs, e1, e2, e3⟩ := orM_spec h2' hes hi hl
    have hsl := eqO_live e2 e3 hl
    rcases e1 with e1 | e1
    · obtain ⟨b, o, g1, g2, g3, g4, g5⟩ := hs.own _ _ e1 hsl
      refine ⟨b, o, g1, g3, ?_, eqO_rel e2 e3 g4⟩
      rintro ⟨j, so', s', j0, j1, j2, j3⟩
      by_cases hij : sig nx sg i = sig nx sg j
      · have := hinj i j hij
        subst this
        -- one key on both sides: the list's keys are told apart by their place
        have : ∀ (a b : List Nat), dist nx sg (a ++ b) = true → ∀ x, x ∈ a → x ∈ b → False := by
          intro a b
          induction a with
          | nil => intro _ x hx; cases hx
          | cons y a ih =>
            intro hd x hx hxb
            simp only [List.cons_append, dist, Bool.and_eq_true, Bool.not_eq_true'] at hd
            cases hx with
            | head =>
              have : hasN (sig nx sg y) ((a ++ b).map (sig nx sg)) = true := hasN_iff.2 (List.mem_map_of_mem (List.mem_append_right _ hxb))
              rw [this] at hd; cases hd.1
            | tail _ hx => exact ih hd.2 x hx hxb
        exact this _ _ h3 i (hkeys_mem j0) (hkeys_mem hi)
      · exact hs.apart _ _ _ _ e1 j1 hsl j2 hij (g1.trans j3.symm)
    · obtain ⟨b, o, g1, g2, g3⟩ := hs.read _ _ e1 hsl
      refine ⟨b, o, g1, hs.old b o g2, ?_, eqO_rel e2 e3 g3⟩
      intro hf
      rw [footD b hf] at g2; cases g2
  refine ⟨⟨D, w, Env.nil, Kind.norm⟩, fun b o e => (Array.getElem?_eq_some_iff.1 (hDs b o e).2).1, (fun b o hb => by show D b = some o; rw [(hD b).2 (fun hf => by rw [footD b hf] at hb; cases hb)]; exact hs.old b o hb), ?_, ?_⟩
  · refine ⟨⟨?_, ?_, ?_, fun b o e => (hDs b o e).2, rfl, rfl, rfl, Nat.le_refl _, Env.nil_le _⟩, ?_⟩
    · intro i s hi hl
      obtain ⟨s0, cs, e1, e2, e3⟩ := hpM_spec h2 hds hi hl
      have hsl := eqO_live e2 e3 hl
      obtain ⟨b, o, g1, g2, g3, g4, g5⟩ := hs.own _ _ e1 hsl
      exact ⟨b, o, g1, (hD b).1 ⟨i, s, s0, hi, e1, hsl, g1⟩, g3, eqO_rel e2 e3 g4, g5⟩
    · intro i j s t hi hj ls lt hne
      obtain ⟨s0, cs, e1, e2, e3⟩ := hpM_spec h2 hds hi ls
      obtain ⟨s1, cs', e1', e2', e3'⟩ := hpM_spec h2 hds hj lt
      exact hs.apart _ _ _ _ e1 e1' (eqO_live e2 e3 ls) (eqO_live e2' e3' lt) (fun e => hne (hinj _ _ e))
    · intro i s hi hl
      obtain ⟨b, o, g1, g2, g3, g4⟩ := lent i s hi hl
      exact ⟨b, o, g1, by show D b = _; rw [(hD b).2 g3]; exact g2, g4⟩
    · intro i hi
      show β (sig nx sg i) = none
      rw [sig_ge hi]; exact hs.fresh _ (by omega)
  · intro β2 w' hz nz hle hs2 hnz
    have hE : ∀ j, ∃ x : Option Nat × Nat, (∀ i, sig nx sg i = j → x = (β2 i, β2.room i)) ∧ ((∀ i, sig nx sg i ≠ j) → x = (β j, β.room j)) := by
      intro j
      by_cases h : ∃ i, sig nx sg i = j
      · obtain ⟨i, rfl⟩ := h
        exact ⟨(β2 i, β2.room i), fun i' e => by rw [hinj _ _ e], fun g => absurd rfl (g i)⟩
      · exact ⟨(β j, β.room j), fun i e => absurd ⟨i, e⟩ h, fun _ => rfl⟩
    obtain ⟨x, hx⟩ : ∃ x : Nat → Option Nat × Nat, ∀ j, (∀ i, sig nx sg i = j → x j = (β2 i, β2.room i)) ∧ ((∀ i, sig nx sg i ≠ j) → x j = (β j, β.room j)) := ⟨fun j => Classical.choose (hE j), fun j => Classical.choose_spec (hE j)⟩
    obtain ⟨β'', hβ⟩ : ∃ β'' : Env, β'' = ⟨fun j => (x j).1, fun j => (x j).2⟩ := ⟨_, rfl⟩
    have hat : ∀ i, β'' (sig nx sg i) = β2 i := fun i => by rw [hβ]; show (x _).1 = _; rw [(hx _).1 i rfl]
    have hroom : ∀ i, β''.room (sig nx sg i) = β2.room i := fun i => by rw [hβ]; show (x _).2 = _; rw [(hx _).1 i rfl]
    have hvia : β''.via nx sg = β2 := by
      have e1 : (β''.via nx sg).f = β2.f := funext hat
      have e2 : (β''.via nx sg).room = β2.room := funext hroom
      cases β2; cases hh : β''.via nx sg
      rw [hh] at e1 e2
      simp only at e1 e2
      rw [e1, e2]
    have hle' : β.le β'' := by
      have key : ∀ j b, β j = some b → β'' j = some b ∧ β''.room j = β.room j := by
        intro j b hj
        by_cases h : ∃ i, sig nx sg i = j
        · obtain ⟨i, rfl⟩ := h
          have hv : (β.via nx sg) i = some b := hj
          exact ⟨(hat i).trans (hle i b hv), (hroom i).trans (hle.r i b hv)⟩
        · have := (hx j).2 (fun i e => h ⟨i, e⟩)
          rw [hβ]
          refine ⟨?_, ?_⟩
          · show (x j).1 = _; rw [this]; exact hj
          · show (x j).2 = _; rw [this]
      exact ⟨fun j b h => (key j b h).1, fun j b h => (key j b h).2⟩
    refine ⟨β'', ?_⟩
    have hrel : ∀ s v, Rel β2 s v → Rel β'' (ren nx sg s) v := fun s v h => (ren_rel s v).2 (by rw [hvia]; exact h)
    have horel : ∀ s o, ORel β2 s o → ORel β'' (renO nx sg s id) o := fun s o h => renO_rel (by rw [hvia]; exact h)
    -- the blocks of the caller's that were not handed in
    have kept : ∀ j s, hget j (hdrop' ((hkeys hpc).map (sig nx sg)) hp) = some s → s.Live → ∃ b o, β j = some b ∧ B.D b = none ∧ D b = some o ∧ w'.heap[b]? = some o ∧ ORel β s o ∧ Fit (β.room j) o ∧ hget j hp = some s := by
      intro j s hj hl
      rw [hdrop_get] at hj
      split at hj
      · cases hj
      rename_i hnk
      obtain ⟨b, o, g1, g2, g3, g4, g5⟩ := hs.own _ _ hj hl
      have hnf : ¬ foot b := by
        rintro ⟨i, so, s', i0, i1, i2, i3⟩
        refine hs.apart _ _ _ _ hj i1 hl i2 ?_ (g1.trans i3.symm)
        intro e; exact hnk (e ▸ List.mem_map_of_mem (hkeys_mem i0))
      have hDb : D b = some o := by rw [(hD b).2 hnf]; exact g3
      exact ⟨b, o, g1, g2, hDb, hs2.old b o hDb, g4, g5, hj⟩
    -- what the callee hands back
    have back : ∀ j s, s.Live → (∃ i s0, j = sig nx sg i ∧ i ∈ hkeys hz ∧ (i, s0) ∈ hz ∧ s = renO nx sg s0 id ∧ ((∀ a b, a ∈ hkeys hz → b ∈ hkeys hz → sig nx sg a = sig nx sg b → a = b) → hget i hz = some s0)) →
        ∃ i s0 b o, j = sig nx sg i ∧ hget i hz = some s0 ∧ s0.Live ∧ β2 i = some b ∧ D b = none ∧ B.D b = none ∧ w'.heap[b]? = some o ∧ ORel β2 s0 o ∧ Fit (β2.room i) o ∧ s = renO nx sg s0 id := by
      rintro j s hl ⟨i, s0, e1, _, _, e4, e5⟩
      have e5 := e5 (fun a b _ _ e => hinj a b e)
      have hl0 : s0.Live := renO_live (e4 ▸ hl)
      obtain ⟨b, o, g1, g2, g3, g4, g5⟩ := hs2.own _ _ e5 hl0
      refine ⟨i, s0, b, o, e1, e5, hl0, g1, g2, ?_, g3, g4, g5, e4⟩
      cases hb : B.D b with
      | none => rfl
      | some o' =>
        exfalso
        have hw := hs.old b o' hb
        by_cases hf : foot b
        · rw [footD b hf] at hb; cases hb
        · have := (hD b).2 hf
          have g2 : D b = none := g2
          rw [g2, hw] at this; cases this
    refine ⟨hle', hrel, ⟨?_, ?_, ?_, ?_, ?_, ?_, ?_, ?_, ?_⟩, ?_⟩
    · intro j s hj hl
      rcases renH_get hj with h | h
      · obtain ⟨i, s0, b, o, e1, e2, _, g1, g2, g3, g4, g5, g6, rfl⟩ := back j s hl h
        exact ⟨b, o, by rw [e1]; exact (hat i).trans g1, g3, g4, horel _ _ g5, by rw [e1, hroom]; exact g6⟩
      · obtain ⟨b, o, g1, g2, _, g4, g5, g6, _⟩ := kept j s h hl
        exact ⟨b, o, hle' _ _ g1, g2, g4, ORel.mono hle' _ _ g5, by rw [hle'.r _ _ g1]; exact g6⟩
    · intro j k s t hj hk ls lt hne
      have mix : ∀ j k s t, s.Live → t.Live → (∃ i s0, j = sig nx sg i ∧ i ∈ hkeys hz ∧ (i, s0) ∈ hz ∧ s = renO nx sg s0 id ∧ ((∀ a b, a ∈ hkeys hz → b ∈ hkeys hz → sig nx sg a = sig nx sg b → a = b) → hget i hz = some s0)) →
          hget k (hdrop' ((hkeys hpc).map (sig nx sg)) hp) = some t → β'' j ≠ β'' k := by
        intro j k s t ls lt h h'
        obtain ⟨i, s0, b, o, e1, e2, _, g1, g2, _⟩ := back j s ls h
        obtain ⟨b', o', g1', _, g3', _⟩ := kept k t h' lt
        rw [e1, hat, g1, hle' _ _ g1']
        intro e; injection e with e; subst e; rw [g2] at g3'; cases g3'
      rcases renH_get hj with h | h <;> rcases renH_get hk with h' | h'
      · obtain ⟨i, s0, b, o, e1, e2, l1, g1, g2, g3, g4, g5, g6, rfl⟩ := back j s ls h
        obtain ⟨i', s0', b', o', e1', e2', l2, g1', g2', _⟩ := back k t lt h'
        rw [e1, e1', hat, hat]
        exact hs2.apart _ _ _ _ e2 e2' l1 l2 (fun e => hne (by rw [e1, e1', e]))
      · exact mix j k s t ls lt h h'
      · exact Ne.symm (mix k j t s lt ls h' h)
      · obtain ⟨b, o, g1, _, _, _, _, _, g7⟩ := kept j s h ls
        obtain ⟨b', o', g1', _, _, _, _, _, g7'⟩ := kept k t h' lt
        rw [hle' _ _ g1, hle' _ _ g1', ← g1, ← g1']
        exact hs.apart _ _ _ _ g7 g7' ls lt hne
    · intro i s hi hl
      obtain ⟨b, o, g1, g2, g3⟩ := hs.read i s hi hl
      exact ⟨b, o, hle' _ _ g1, g2, ORel.mono hle' _ _ g3⟩
    · intro b o hb
      refine hs2.old b o ?_
      show D b = some o
      rw [(hD b).2 ?_]
      · exact hs.old b o hb
      · intro hf
        rw [footD b hf] at hb; cases hb
    · exact hs2.os.trans hs.os
    · exact hs2.tape.trans hs.tape
    · exact hs2.output.trans hs.output
    · exact Nat.le_trans hs.size hs2.size
    · exact Env.le_trans hs.pin hle'
    · intro i hi
      have : sig nx sg (sg.length + (i - nx)) = i := by rw [sig_ge (by omega)]; omega
      rw [← this, hat]
      exact hs2.fresh _ (by omega)
section
variable {P : Program} {ro : Hp} {B : Base} {f : FuncId} {R : Ending → World → Prop}
theorem run_callK {ι : Type} {K : Kn} {g : Nat} {xs : List SV} {hpc roc : Hp} {nxc : Nat} {ψ : ι → Prop} {out : ι → Out} (hHC : HCK P K g xs hpc roc nxc ψ out) (hP : Named P) (hB : B.ok) (hK : ∀ b o, K b = some o → B.D b = some o) (sg : List Nat)
    {fn : FId} {n : Nat} {sl : Slots} {ops : Array Oper} {i : Nat} {o : Oper} {cur : List Oper} {tl : Option (List Nat)} {k : List SI} {rest : List SFr} {hp : Hp} {nx : Nat} {cs0 cs1 cs2 cs3 : List Prop} {gf : Func} {gb : Code} {as : List SV}
    (hgd : guardIn ops sl o = some .run) (hcal : callee P sl o.op = some (cs0, g, gf, gb, as)) (hl : sg.length = nxc) (hcov : cover (hkeys hpc ++ hkeys roc) nxc = true) (hlt : allLt nx sg = true)
    (hargs : renFL nx sg xs (fun ys => eqL ys as) = some cs1) (h2 : hpM nx sg hp hpc = some cs2) (h2' : orM nx sg hp ro roc = some cs3) (h3 : dist nx sg (hkeys hpc ++ hkeys roc) = true)
    (hc0 : conj cs0) (hc1 : conj cs1) (hc2 : conj cs2) (hc3 : conj cs3)
    (h : ∀ z, ψ z → nxc ≤ (out z).nx ∧ ∃ sl' hp' nx', put o.dst (ren nx sg (out z).r) n sl = some sl' ∧ callH nx sg ((hkeys hpc).map (sig nx sg)) (out z).hp hp = some hp' ∧ natF (nx + ((out z).nx - nxc)) some = some nx' ∧
      Run P ro B f R ⟨⟨fn, n, sl', .reg ops (i + 1) cur tl :: k⟩, rest, hp', nx'⟩) :
    Run P ro B f R ⟨⟨fn, n, sl, .reg ops i (o :: cur) tl :: k⟩, rest, hp, nx⟩ := by
  subst hl
  refine run_opz (G := fun z => ψ z) (sz := fun z => ren nx sg (out z).r) (hpz := fun z => renH' nx sg (hdrop' ((hkeys hpc).map (sig nx sg)) hp) (out z).hp) (nxz := fun z => nx + ((out z).nx - sg.length)) ?_ ?_
  · intro z hz
    obtain ⟨h0, sl', hp', nx', e1, e2, e3, hr⟩ := h z hz
    have e2 := callH_eq e2
    rw [natF_eq] at e3
    injection e3 with e3
    subst e2 e3
    exact ⟨sl', e1, hr⟩
  · intro β w tmps b k' fs r dd hn hsl hlt' hs hk ho
    have hw := guard_rel hgd hn hsl hlt'
    have hrho : Rho β sl (Act.eval ⟨tmps, dd⟩) := ⟨hsl, fun _ => rfl, fun _ => rfl⟩
    obtain ⟨hfn, hb, vs, hvl, hrun⟩ := callee_run (w := w) hP hrho hcal (all_conj hc0)
    obtain ⟨B1, hB1, hD1, hs1, hback⟩ := hs.calledK hB hlt hcov h2 h2' h3 (all_conj hc2) (all_conj hc3)
    rw [renFL_eq] at hargs
    have hxs : RelL (β.via nx sg) xs vs := (renL_rel _ _).1 (eqL_less _ _ _ hargs (all_conj hc1) β vs hvl)
    have hcall := hHC B1 (β.via nx sg) w vs hB1 (fun b o e => hD1 b o (hK b o e)) hxs hs1
    have hst := op_enter (P := P) (b := b) (a := ⟨tmps, dd⟩) (k := k') (cs := fs) (w := w) (ops := ops) (i := i) (rest := r) ho hw hrun
    obtain ⟨e, w', fr', ⟨z, β2, u, hz, hle2, rfl, hu, hs2⟩, hco, _, hlv⟩ := hcall (b.atR ⟨tmps, dd⟩ (.inRegion ops (i :: r) :: k') :: fs)
    obtain ⟨β'', g1, g2, g3⟩ := hback β2 w' _ _ hle2 hs2 (h z hz).1
    refine ⟨z, β'', w', u, hz, g1, g3, g2 _ _ hu, (Steps.one hst).trans (Steps.trans hco (.one ?_))⟩
    have hfin : (b.atR ⟨tmps, dd⟩ (.inRegion ops (i :: r) :: k')).finish u = b.atR (Act.put ⟨tmps, dd⟩ o.dst u) (.inRegion ops r :: k') := by rw [Frame.finish_atR, ho]; rfl
    rw [← hfin]
    exact step_leave_returned hlv
theorem run_callCK {ι : Type} {K : Kn} {g : Nat} {xs : List SV} {hpc roc : Hp} {nxc : Nat} {ψ : ι → Prop} {out : ι → Out} (hHC : HCK P K g xs hpc roc nxc ψ out) (hP : Named P) (hB : B.ok) (hK : ∀ b o, K b = some o → B.D b = some o) (sg : List Nat)
    {fn : FId} {n : Nat} {sl : Slots} {ops : Array Oper} {i : Nat} {o : Oper} {cur : List Oper} {tl : Option (List Nat)} {k : List SI} {rest : List SFr} {hp : Hp} {nx : Nat} {cs0 cs1 : List Prop} {gf : Func} {gb : Code} {as : List SV}
    (hgd : guardIn ops sl o = some .run) (hcal : callee P sl o.op = some (cs0, g, gf, gb, as)) (hl : sg.length = nxc) (hk : callC nx sg nxc xs as hpc roc hp ro = some cs1) (hc0 : conj cs0) (hc1 : conj cs1)
    (h : ∀ z, ψ z → nxc ≤ (out z).nx ∧ ∃ sl' hp' nx', put o.dst (ren nx sg (out z).r) n sl = some sl' ∧ callH nx sg ((hkeys hpc).map (sig nx sg)) (out z).hp hp = some hp' ∧ natF (nx + ((out z).nx - nxc)) some = some nx' ∧
      Run P ro B f R ⟨⟨fn, n, sl', .reg ops (i + 1) cur tl :: k⟩, rest, hp', nx'⟩) :
    Run P ro B f R ⟨⟨fn, n, sl, .reg ops i (o :: cur) tl :: k⟩, rest, hp, nx⟩ := by
  unfold callC at hk
  cases hb : (cover (hkeys hpc ++ hkeys roc) nxc && allLt nx sg && dist nx sg (hkeys hpc ++ hkeys roc)) with
  | false => rw [hb] at hk; cases hk
  | true =>
  rw [hb] at hk; simp only [cond_true] at hk
  simp only [Bool.and_eq_true] at hb
  split at hk <;> first | exact (none_ne hk).elim | skip
  rename_i a b c e1 e2 e3
  injection hk with hk; subst hk
  obtain ⟨h1, h2⟩ := conj_append hc1
  obtain ⟨h2, h3⟩ := conj_append h2
  exact run_callK hHC hP hB hK sg hgd hcal hl hb.1.1 hb.1.2 e1 e2 e3 hb.2 hc0 h1 h2 h3 h
end
end Sx
end
section
namespace Sx
open Go
def pinB (B : Base) (nx b r : Nat) : Base := ⟨B.D, B.w, B.pin.add nx b r, B.kd⟩
section
variable {P : Program} {ro : Hp} {B : Base} {f : FuncId} {R : Ending → World → Prop}
end
end Sx
end
section
namespace Sx
open Go
section
variable {P : Program} {ro : Hp} {B : Base} {f : FuncId} {R : Ending → World → Prop}
end
end Sx
end
section
namespace Sx
open Go
section
variable {P : Program} {ro : Hp} {B : Base} {f : FuncId} {R : Ending → World → Prop}
end
end Sx
end
section
namespace Sx
open Go
/-- The calls put off by rounds of loops that are over: none. -/
abbrev collD (l : List Nat) : List DF := l.map DF.coll
@[simp] theorem dfKeep_coll (nx : Nat) (sg : List Nat) : ∀ l : List Nat, dfKeep nx sg (collD l)
  | [] => trivial
  | _ :: r => dfKeep_coll nx sg r
/-- Nothing is collected for good. -/
abbrev noCalls : Obj := .deferred (some [])
section
variable {P : Program} {ro : Hp} {B : Base} {f : FuncId} {R : Ending → World → Prop}
end
end Sx
end
section
namespace Sx
open Go
/-- A slice of one-cell elements that may still grow: nil, or from its block's start. -/
def Gro (K : Kn) (v : Value) (n : Nat) (g : Nat → Nat → SV) (ty : TypeId) (b : Nat) : Prop :=
  (n = 0 ∧ v = .slice none 0 0) ∨ (0 < n ∧ ∃ room c, v = .slice (some ⟨b, 0, none⟩) n room ∧ n ≤ room ∧ room ≤ c.size ∧ room ≤ 9223372036854775807 ∧ K b = some (.cells c ty (0, 0)) ∧ ∀ i, i < n → ∃ u, c[i]? = some u ∧ Rel Env.nil (g i 0) u)
theorem Gro.keep {K K' : Kn} {v : Value} {n : Nat} {g : Nat → Nat → SV} {ty : TypeId} {b : Nat} (h : Gro K v n g ty b) (hk : 0 < n → ∀ o, K b = some o → K' b = some o) : Gro K' v n g ty b := by
  rcases h with h | ⟨h0, room, c, h1, h2, h3, h4, h5, h6⟩
  · exact .inl h
  · exact .inr ⟨h0, room, c, h1, h2, h3, h4, hk h0 _ h5, h6⟩
theorem Gro.congr {K : Kn} {v : Value} {n : Nat} {g g' : Nat → Nat → SV} {ty : TypeId} {b : Nat} (h : Gro K v n g ty b) (e : ∀ i, i < n → g i 0 = g' i 0) : Gro K v n g' ty b := by
  rcases h with h | ⟨h0, room, c, h1, h2, h3, h4, h5, h6⟩
  · exact .inl h
  · exact .inr ⟨h0, room, c, h1, h2, h3, h4, h5, fun i hi => by rw [← e i hi]; exact h6 i hi⟩
theorem Gro.some {K : Kn} {v : Value} {n : Nat} {g : Nat → Nat → SV} {ty : TypeId} {b : Nat} (h : Gro K v n g ty b) (h0 : 0 < n) : K b ≠ none := by
  rcases h with ⟨h, _⟩ | ⟨_, room, c, _, _, _, _, h5, _⟩
  · omega
  · rw [h5]; simp
theorem Gro.froz {K : Kn} {v : Value} {n : Nat} {g : Nat → Nat → SV} {ty : TypeId} {b : Nat} (h : Gro K v n g ty b) : Froz K v n 1 g := by
  rcases h with ⟨rfl, rfl⟩ | ⟨h0, room, c, rfl, h2, h3, h4, h5, h6⟩
  · exact ⟨none, 0, rfl, fun _ => rfl, fun h => absurd h (Nat.lt_irrefl _)⟩
  · refine ⟨_, room, rfl, fun h => (by cases h), fun _ => ⟨h2, b, 0, c, ty, (0, 0), rfl, h5, fun i k hi hk => ?_⟩⟩
    obtain ⟨u, g1, g2⟩ := h6 i hi
    have hk : k = 0 := by omega
    subst hk
    exact ⟨u, by rw [show 0 + i * 1 + 0 = i by omega]; exact g1, g2⟩
/-- Without a block. -/
def offB (B : Base) (b : Nat) : Base := ⟨fun x => if x = b then none else B.D x, B.w, B.pin, B.kd⟩
section
variable {P : Program} {ro : Hp} {B : Base} {f : FuncId} {R : Ending → World → Prop}
/-- An inner slice is taken up: it may be appended to. -/
theorem run_takeO {K : Kn} (hB : B.ok) (hK : ∀ x o, K x = some o → B.D x = some o) (X i kk : Nat) {v2 : Value} {off m cap sz n2 : Nat} {g f2 : Nat → Nat → SV} {ty ty2 : TypeId} {b : Nat} (hG : Gro K v2 n2 f2 ty2 b) (h0 : 0 < n2) (hro : ∀ j s, hget j ro = some s → s.Live → ∃ b', B.pin j = some b' ∧ b' ≠ b)
    {fn : FId} {n : Nat} {sl : Slots} {td : List SI} {rest : List SFr} {hp hp2 : Hp} {nx : Nat} (hX : hget X hp = some (.row off m cap sz g ty)) (hv : g i kk = .val v2) {g' : Nat → Nat → SV} (hg : ∀ e k, g' e k = if e = i ∧ k = kk then .sq nx 0 0 1 n2 .own else g e k) (hset2 : hset X (.row off m cap sz g' ty) hp = some hp2)
    (hr : (offB B b).ok → (∀ x o, offK K b x = some o → (offB B b).D x = some o) → Run P ro (offB B b) f R ⟨⟨fn, n, sl, td⟩, rest, (nx, .row 0 n2 n2 1 f2 ty2) :: hp2, nx + 1⟩) : Run P ro B f R ⟨⟨fn, n, sl, td⟩, rest, hp, nx⟩ := by
  obtain ⟨h, _⟩ | ⟨_, room, c, rfl, r1, r2, r3, hKb, hc⟩ := hG
  · omega
  intro β w fr frs cs hf hfs hs hcs
  have hfr := hs.fresh nx (Nat.le_refl _)
  have hle : β.le (β.add nx b room) := Env.le_add hfr
  have hne : ∀ i b', β i = some b' → i ≠ nx := by
    intro i b' h e; subst e; rw [hfr] at h; cases h
  have hDb : B.D b = some (.cells c ty2 (0, 0)) := hK _ _ hKb
  have old : ∀ j s, hget j hp2 = some s → ∃ s0, hget j hp = some s0 ∧ (s.Live → s0.Live) ∧ ∀ o, ORel β s0 o → ORel (β.add nx b room) s o := by
    intro j s hi'
    rw [hset_get hset2 j] at hi'
    by_cases e : j = X
    · subst e
      rw [if_pos rfl, hX] at hi'
      simp only [Option.map_some, Option.some.injEq] at hi'
      subst hi'
      refine ⟨_, hX, fun h => h, fun o ho => ?_⟩
      obtain ⟨cc, fz, tt, q1, q2, q3, q4, q5⟩ := ho
      refine ⟨cc, fz, tt, q1, q2, q3, q4, fun e k he hk => ?_⟩
      obtain ⟨u, hu, hru⟩ := q5 e k he hk
      refine ⟨u, hu, ?_⟩
      rw [hg]
      split
      · rename_i hek
        obtain ⟨rfl, rfl⟩ := hek
        rw [hv] at hru
        have hru : u = _ ∧ _ := hru
        rw [hru.1]
        refine ⟨_, room, rfl, fun h => (by cases h), fun _ => ⟨fun h => by omega, r3⟩, fun h => (by cases h), fun _ => ⟨r1, b, Env.add_same _ _ _ _, by simp, fun _ => ?_⟩⟩
        rw [Env.add_room]; omega
      · exact Rel.mono hle _ _ hru
    · rw [if_neg e] at hi'
      exact ⟨s, hi', fun h => h, fun o h => ORel.mono hle _ _ h⟩
  refine hr (fun x o hx => ?_) (fun x o hx => ?_) (β.add nx b room) w fr frs cs (hf.mono hle) (hfs.mono hle) ⟨⟨fun i s hi hl => ?_, fun i j s t hi hj hl ht hij => ?_, fun i s hi hl => ?_, fun x o hx => ?_, hs.os, hs.tape, hs.output, hs.size, Env.le_trans hs.pin hle⟩, fun i hi => ?_⟩ hcs
  · have hx : (if x = b then none else B.D x) = some o := hx
    split at hx
    · cases hx
    · exact hB x o hx
  · have hx : (if x = b then none else K x) = some o := hx
    show (if x = b then none else B.D x) = some o
    split at hx
    · cases hx
    · rename_i h; rw [if_neg h]; exact hK x o hx
  · simp only [hget] at hi
    cases hbe : Nat.beq i nx with
    | true =>
      rw [hbe] at hi; simp only [cond_true, Option.some.injEq] at hi; subst hi
      have := beq_nat hbe; subst this
      refine ⟨b, _, Env.add_same _ _ _ _, by show (if b = b then none else B.D b) = none; rw [if_pos rfl], hs.old b _ hDb, ⟨c, (0, 0), ty2, .inr rfl, rfl, Nat.le_refl _, by omega, fun i k hi hk => ?_⟩, ⟨rfl, by rw [Env.add_room]; exact r2⟩⟩
      obtain ⟨u, hu, hrl⟩ := hc i hi
      have hk0 : k = 0 := by omega
      subst hk0
      exact ⟨u, by simpa using hu, Rel.mono (Env.nil_le _) _ _ hrl⟩
    | false =>
      rw [hbe] at hi
      obtain ⟨s0, p1, p2, p3⟩ := old i s hi
      obtain ⟨b', o', h1, h2, h3, h4, h5⟩ := hs.own i s0 p1 (p2 hl)
      have hn := hne i b' h1
      refine ⟨b', o', (Env.add_other _ _ _ hn).trans h1, ?_, h3, p3 _ h4, by rw [Env.add_room_other _ _ _ hn]; exact h5⟩
      show (if b' = b then none else B.D b') = none
      split
      · rfl
      · exact h2
  · have key : ∀ i s, hget i ((nx, SO.row 0 n2 n2 1 f2 ty2) :: hp2) = some s → s.Live → (i = nx ∧ (β.add nx b room) i = some b) ∨ (i ≠ nx ∧ ∃ s0, hget i hp = some s0 ∧ s0.Live ∧ ∃ b' : Nat, β i = some b' ∧ B.D b' = none ∧ (β.add nx b room) i = some b') := by
      intro i s hi hl
      simp only [hget] at hi
      cases hbe : Nat.beq i nx with
      | true => have := beq_nat hbe; subst this; exact .inl ⟨rfl, Env.add_same _ _ _ _⟩
      | false =>
        rw [hbe] at hi
        obtain ⟨s0, p1, p2, p3⟩ := old i s hi
        obtain ⟨b', o', h1, h2, _⟩ := hs.own i s0 p1 (p2 hl)
        have hn := hne i b' h1
        exact .inr ⟨hn, s0, p1, p2 hl, b', h1, h2, (Env.add_other _ _ _ hn).trans h1⟩
    rcases key i s hi hl with ⟨e1, e2⟩ | ⟨e1, s0, e2, el, b1, e3, e4, e5⟩ <;> rcases key j t hj ht with ⟨g1, g2⟩ | ⟨g1, t0, g2, gl, b2, g3, g4, g5⟩
    · exact absurd (e1.trans g1.symm) hij
    · rw [e2, g5]; intro e; injection e with e; subst e; rw [hDb] at g4; cases g4
    · rw [e5, g2]; intro e; injection e with e; subst e; rw [hDb] at e4; cases e4
    · rw [e5, g5, ← e3, ← g3]; exact hs.apart i j s0 t0 e2 g2 el gl hij
  · obtain ⟨b', o', h1, h2, h3⟩ := hs.read i s hi hl
    obtain ⟨b2, q1, q2⟩ := hro i s hi hl
    have := hs.pin _ _ q1
    rw [h1] at this; injection this with this; subst this
    exact ⟨b', o', (Env.add_other _ _ _ (hne i b' h1)).trans h1, by show (if b' = b then none else B.D b') = some o'; rw [if_neg q2]; exact h2, ORel.mono hle _ _ h3⟩
  · have hx : (if x = b then none else B.D x) = some o := hx
    split at hx
    · cases hx
    · exact hs.old x o hx
  · have hi : nx + 1 ≤ i := hi
    rw [Env.add_other _ _ _ (by omega)]; exact hs.fresh i (Nat.le_of_succ_le hi)
/-- An inner slice is given back. -/
theorem run_giveO {K : Kn} (hB : B.ok) (hK : ∀ x o, K x = some o → B.D x = some o) (X i kk : Nat) {L off m cap sz n2 n3 cap2 : Nat} {g f2 : Nat → Nat → SV} {ty ty2 : TypeId} (h0 : 0 < n2)
    {fn : FId} {n : Nat} {sl : Slots} {td : List SI} {rest : List SFr} {hp hp1 : Hp} {nx : Nat} (hX : hget X hp = some (.row off m cap sz g ty)) (him : i < m) (hks : kk < sz) (hv : g i kk = .sq L 0 0 1 n2 .own) (hi : hget L hp = some (.row 0 n3 cap2 1 f2 ty2)) (hn3 : n2 ≤ n3) (hne : Nat.beq X L = false) (hty : Nat.beq ty2 anyTy = false) (hcl : ∀ i, i < n2 → (f2 i 0).closed = true)
    {g' : Value → Nat → Nat → SV} (hg : ∀ v e k, g' v e k = if e = i ∧ k = kk then .val v else g e k) (hd : hdrop [L] hp some = some hp1) (hset2 : ∀ v, ∃ hp2', hset X (.row off m cap sz (g' v) ty) hp1 = some hp2')
    (hr : ∀ v b B' K', Gro K' v n2 f2 ty2 b → B.D b = none → Fz B K M0 B' K' → B'.pin = B.pin → (∀ x, x ≠ b → K' x = K x) → ∀ hp2, hset X (.row off m cap sz (g' v) ty) hp1 = some hp2 → Run P ro B' f R ⟨⟨fn, n, sl, td⟩, rest, hp2, nx⟩) : Run P ro B f R ⟨⟨fn, n, sl, td⟩, rest, hp, nx⟩ := by
  intro β w fr frs cs hf hfs hs hcs
  rw [hdrop_eq] at hd
  injection hd with hd; subst hd
  have hXL : X ≠ L := fun e => by subst e; simp at hne
  obtain ⟨bX, oX, x1, x2, x3, x4, x5⟩ := hs.own X _ hX (show 0 < m by omega)
  obtain ⟨cX, fzX, ttX, y1, y2, y3, y4, y5⟩ := x4
  obtain ⟨u, hu, hru⟩ := y5 i kk him hks
  rw [hv] at hru
  obtain ⟨base, room, e1, e2, e3, e4, e5⟩ := hru
  obtain ⟨r1, b, hb, hbase, hroom⟩ := e5 h0
  obtain ⟨b', o, h1, h2, h3, h4, h5⟩ := hs.own L _ hi (show 0 < n3 by omega)
  rw [hb] at h1; injection h1 with h1; subst h1
  obtain ⟨c, fz, tt, q1, q2, q3, q4, q5⟩ := h4
  subst q2
  have hfz : fz = (0, 0) := h5.l
  subst hfz
  have htt : ty2 = tt := by
    rcases q1 with q | q
    · rw [hty] at q; cases q
    · exact q
  subst htt
  have hbs : room ≤ c.size := by have := hroom rfl; have := h5.s; simp only [osize] at this; omega
  subst hbase
  have hone : u.oneCell' = true := by rw [e1]; rfl
  let o : Obj := .cells c ty2 (0, 0)
  let B6 : Base := ⟨fun x => if x = b then some o else B.D x, w, B.pin, B.kd⟩
  let K6 : Kn := fun x => if x = b then some o else K x
  have hnb : ∀ x o', B.D x = some o' → x ≠ b := fun x o' e q => by rw [q, h2] at e; cases e
  have hF6 : Fz B K M0 B6 K6 := by
    refine ⟨fun x o' hx => ?_, rfl, Env.le_refl _, hs.os, hs.tape, hs.output, hs.size, fun x o' hx _ => ?_, fun x o' hx => ?_, fun x o' hx _ => ?_, fun x o' hx => ?_⟩
    · have hx : (if x = b then some o else B.D x) = some o' := hx
      split at hx
      · rename_i e; subst e; exact (Array.getElem?_eq_some_iff.1 h3).1
      · exact Nat.lt_of_lt_of_le (hB x o' hx) hs.size
    · show (if x = b then some o else B.D x) = some o'
      rw [if_neg (hnb x o' hx)]; exact hx
    · have hx : (if x = b then some o else K x) = some o' := hx
      show (if x = b then some o else B.D x) = some o'
      split at hx
      · rename_i e; rw [if_pos e]; exact hx
      · rename_i e; rw [if_neg e]; exact hK x o' hx
    · show (if x = b then some o else K x) = some o'
      rw [if_neg (hnb x o' (hK x o' hx))]; exact hx
    · have hx : (if x = b then some o else K x) = some o' := hx
      split at hx
      · rename_i e; subst e; exact .inr h2
      · left; rw [hx]; simp
  obtain ⟨hp2, hh2⟩ := hset2 u
  have own' : ∀ j s, hget j (hdrop' [L] hp) = some s → hget j hp = some s ∧ j ≠ L := by
    intro j s hj
    rw [hdrop_get] at hj
    split at hj
    · cases hj
    · rename_i hn; exact ⟨hj, fun e => hn (by rw [e]; exact List.mem_singleton.2 rfl)⟩
  have hX' : hget X (hdrop' [L] hp) = some (.row off m cap sz g ty) := by
    rw [hdrop_get, if_neg (by simpa using hXL)]; exact hX
  have old : ∀ j s, hget j hp2 = some s → ∃ s0, hget j hp = some s0 ∧ j ≠ L ∧ (s.Live → s0.Live) ∧ ∀ o, (j = X → o = oX) → ORel β s0 o → ORel β s o := by
    intro j s hi'
    rw [hset_get hh2 j] at hi'
    by_cases e : j = X
    · subst e
      rw [if_pos rfl, hX'] at hi'
      simp only [Option.map_some, Option.some.injEq] at hi'
      subst hi'
      refine ⟨_, hX, hXL, fun h => h, fun o ho _ => ?_⟩
      rw [ho rfl]
      refine ⟨cX, fzX, ttX, y1, y2, y3, y4, fun a k ha hk => ?_⟩
      obtain ⟨u', hu', hr'⟩ := y5 a k ha hk
      by_cases e2 : a = i ∧ k = kk
      · obtain ⟨rfl, rfl⟩ := e2
        refine ⟨u, hu, ?_⟩
        rw [hg, if_pos ⟨rfl, rfl⟩]
        exact ⟨rfl, hone⟩
      · refine ⟨u', hu', ?_⟩
        rw [hg, if_neg e2]; exact hr'
    · rw [if_neg e] at hi'
      obtain ⟨p1, p2⟩ := own' j s hi'
      exact ⟨s, p1, p2, fun h => h, fun o _ h => h⟩
  refine hr u b B6 K6 (.inr ⟨h0, room, c, by rw [e1], r1, hbs, (e3 rfl).2, if_pos rfl, fun i hi => ?_⟩) h2 hF6 rfl (fun x hx => if_neg hx) hp2 hh2 β w fr frs cs hf hfs ⟨⟨fun j s hj hl => ?_, fun j k s t hj hk hl ht hij => ?_, fun j s hj hl => ?_, fun x o' hx => ?_, rfl, rfl, rfl, Nat.le_refl _, hs.pin⟩, hs.fresh⟩ hcs
  · obtain ⟨u', hu', hrl⟩ := q5 i 0 (by omega) (by omega)
    exact ⟨u', by simpa using hu', Rel.closed _ _ (hcl i hi) hrl⟩
  · obtain ⟨s0, p1, p2, p3, p4⟩ := old j s hj
    obtain ⟨bj, oj, j1, j2, j3, j4, j5⟩ := hs.own j s0 p1 (p3 hl)
    refine ⟨bj, oj, j1, ?_, j3, p4 oj (fun e => ?_) j4, j5⟩
    · show (if bj = b then some o else B.D bj) = none
      rw [if_neg, j2]
      intro e
      exact hs.apart j L s0 _ p1 hi (p3 hl) (show 0 < n3 by omega) p2 (by rw [j1, hb, e])
    · subst e
      rw [x1] at j1; injection j1 with j1; subst j1
      rw [x3] at j3; injection j3 with j3; exact j3.symm
  · obtain ⟨s0, p1, _, p3, _⟩ := old j s hj
    obtain ⟨t0, p1', _, p3', _⟩ := old k t hk
    exact hs.apart j k s0 t0 p1 p1' (p3 hl) (p3' ht) hij
  · obtain ⟨bj, oj, j1, j2, j3⟩ := hs.read j s hj hl
    refine ⟨bj, oj, j1, ?_, j3⟩
    show (if bj = b then some o else B.D bj) = some oj
    rw [if_neg (hnb bj oj j2)]; exact j2
  · have hx : (if x = b then some o else B.D x) = some o' := hx
    by_cases e : x = b
    · rw [if_pos e] at hx; injection hx with hx; rw [e, ← hx]; exact h3
    · rw [if_neg e] at hx; exact hs.old x o' hx
end
/-- From a base less a block. -/
theorem Fz.offB {B B' : Base} {K K' : Kn} {b : Nat} (h : Fz (offB B b) (offK K b) M0 B' K') (hb : K b ≠ none) : Fz B K (fun x => x = b) B' K' := by
  refine ⟨h.ok, h.kd, h.pin, h.os, h.tape, h.output, h.size, fun x o e hn => ?_, h.le, fun x o e hn => ?_, fun x o e => ?_⟩
  · have hn : ¬ x = b := hn
    exact h.keep x o (by show (if x = b then none else B.D x) = some o; rw [if_neg hn]; exact e) (fun h => h)
  · have hn : ¬ x = b := hn
    exact h.old x o (by show (if x = b then none else K x) = some o; rw [if_neg hn]; exact e) (fun h => h)
  · by_cases hx : x = b
    · rw [hx]; exact .inl hb
    · rcases h.new x o e with q | q
      · left
        have q : (if x = b then none else K x) ≠ none := q
        rw [if_neg hx] at q; exact q
      · right
        have q : (if x = b then none else B.D x) = none := q
        rw [if_neg hx] at q; exact q
end Sx
end
section
namespace Sx
open Go
section
variable {P : Program} {ro : Hp} {B : Base} {f : FuncId} {R : Ending → World → Prop}
/-- The name of a row to read is bound to its block. -/
theorem run_pinR (k : Nat) {s : SO} {c : Cfg} {np : Nat} (hpin : PinTo B np) (hnp : np ≤ k) (hkn : k < c.nx) (hk : hget k ro = some s)
    (hr : ∀ B', More B B' → B'.D = B.D → PinTo B' c.nx → (s.Live → ∃ b o, B'.pin k = some b ∧ B.D b = some o) → Run P ro B' f R c) : Run P ro B f R c := by
  intro β w fr frs cs hf hfs hs hcs
  by_cases hl : s.Live
  · obtain ⟨b, o, h1, h2, h3⟩ := hs.read k s hk hl
    have hpk : B.pin k = none := hpin.p k hnp
    let B' : Base := B.pinA k b (β.room k)
    have hM : More B B' := ⟨rfl, rfl, Env.le_add hpk, rfl⟩
    have hpl : B'.pin.le β := by
      refine ⟨fun i x hx => ?_, fun i x hx => ?_⟩
      · by_cases h : i = k
        · subst h
          have hx : (B.pin.add i b (β.room i)) i = some x := hx
          rw [Env.add_same] at hx; injection hx with hx; subst hx; exact h1
        · have hx : (B.pin.add k b (β.room k)) i = some x := hx
          rw [Env.add_other _ _ _ h] at hx; exact hs.pin _ _ hx
      · by_cases h : i = k
        · subst h
          show β.room i = (B.pin.add i b (β.room i)).room i
          rw [Env.add_room]
        · have hx : (B.pin.add k b (β.room k)) i = some x := hx
          show β.room i = (B.pin.add k b (β.room k)).room i
          rw [Env.add_room_other _ _ _ h]; rw [Env.add_other _ _ _ h] at hx; exact hs.pin.r _ _ hx
    exact hr B' hM rfl ((hpin.more (by omega)).pinA hkn) (fun _ => ⟨b, o, Env.add_same _ _ _ _, h2⟩) β w fr frs cs hf hfs ⟨⟨hs.own, hs.apart, hs.read, hs.old, hs.os, hs.tape, hs.output, hs.size, hpl⟩, hs.fresh⟩ hcs
  · exact hr B ⟨rfl, rfl, Env.le_refl _, rfl⟩ rfl (hpin.more (by omega)) (fun h => absurd h hl) β w fr frs cs hf hfs hs hcs
/-- An inner slice is given back; what the row then holds. -/
theorem run_giveP {K : Kn} (hB : B.ok) (hK : ∀ x o, K x = some o → B.D x = some o) (X i kk : Nat) {L off m cap sz n2 n3 cap2 : Nat} {g f2 : Nat → Nat → SV} {ty ty2 : TypeId} (h0 : 0 < n2)
    {fn : FId} {n : Nat} {sl : Slots} {td : List SI} {rest : List SFr} {hp hp1 : Hp} {hp2 : Value → Hp} {nx : Nat} (hX : hget X hp = some (.row off m cap sz g ty)) (him : i < m) (hks : kk < sz) (hv : g i kk = .sq L 0 0 1 n2 .own) (hi : hget L hp = some (.row 0 n3 cap2 1 f2 ty2)) (hn3 : n2 ≤ n3) (hne : Nat.beq X L = false) (hty : Nat.beq ty2 anyTy = false) (hcl : ∀ i, i < n2 → (f2 i 0).closed = true)
    (hd : hdrop [L] hp some = some hp1) (hset2 : ∀ v, hset X (.row off m cap sz (fun e c => if e = i ∧ c = kk then .val v else g e c) ty) hp1 = some (hp2 v))
    (hr : ∀ v b B' K', Gro K' v n2 f2 ty2 b → B.D b = none → Fz B K M0 B' K' → B'.pin = B.pin → (∀ x, x ≠ b → K' x = K x) → Run P ro B' f R ⟨⟨fn, n, sl, td⟩, rest, hp2 v, nx⟩) : Run P ro B f R ⟨⟨fn, n, sl, td⟩, rest, hp, nx⟩ := by
  refine run_giveO hB hK X i kk h0 hX him hks hv hi hn3 hne hty hcl (g' := fun v e c => if e = i ∧ c = kk then .val v else g e c) (fun _ _ _ => rfl) hd (fun v => ⟨_, hset2 v⟩) (fun v b B' K' h1 h2 h3 h4 h5 hp2' h6 => ?_)
  rw [hset2 v] at h6
  injection h6 with h6
  subst h6
  exact hr v b B' K' h1 h2 h3 h4 h5
end
/-- The same base, with the pins of another. -/
def Base.rep (B' : Base) (B : Base) : Base := ⟨B'.D, B'.w, B.pin, B'.kd⟩
theorem Fz.unpin {B B1 B2 : Base} {K K2 : Kn} {M : Nat → Prop} (hM : More B B1) (h : Fz B1 K M B2 K2) : Fz B K M (B2.rep B) K2 ∧ More (B2.rep B) B2 := by
  obtain ⟨D1, w1, p1, k1⟩ := B1
  obtain ⟨g1, g2, g3, g4⟩ := hM
  simp only at g1 g2 g3 g4
  subst g1 g2 g4
  exact ⟨⟨h.ok, h.kd, Env.le_refl _, h.os, h.tape, h.output, h.size, h.keep, h.le, h.old, h.new⟩, ⟨rfl, rfl, Env.le_trans g3 h.pin, rfl⟩⟩
end Sx
end
section
namespace Sx
open Go
theorem sat_openN {K : Kn} {B : Base} (hK : ∀ b o, K b = some o → B.D b = some o) {v : Value} {m sz : Nat} {g : Nat → Nat → SV} (hF : Froz K v m sz g) (hsz : 0 < sz) {β : Env} {hp ro : Hp} {nx : Nat} {w : World} (hs : Sat β hp ro B nx w) :
    ∃ off, ∃ β' : Env, β.le β' ∧ Rel β' (.sq nx off 0 sz m .no) v ∧ Sat β' hp ((nx, .row off m m sz g anyTy) :: ro) B (nx + 1) w ∧ (0 < m → ∃ b c tt fz, β' nx = some b ∧ K b = some (.cells c tt fz) ∧ ∀ i k, i < m → k < sz → ∃ u, c[off + i * sz + k]? = some u ∧ Rel Env.nil (g i k) u) := by
  obtain ⟨base, room, e1, e2, e3⟩ := hF
  rcases Nat.eq_zero_or_pos m with h0 | h0
  · subst h0
    refine ⟨0, β, Env.le_refl _, ⟨base, room, e1, e2, fun h => (by cases h), fun h => (by cases h), fun h => absurd h (Nat.lt_irrefl _)⟩, ⟨⟨hs.own, hs.apart, fun i s hi hl => ?_, hs.old, hs.os, hs.tape, hs.output, hs.size, hs.pin⟩, fun i hi => hs.fresh i (by show nx ≤ i; omega)⟩, fun h => absurd h (Nat.lt_irrefl _)⟩
    simp only [hget] at hi
    cases hb : Nat.beq i nx with
    | true => rw [hb] at hi; simp only [cond_true, Option.some.injEq] at hi; subst hi; exact absurd hl (Nat.lt_irrefl 0)
    | false => rw [hb] at hi; exact hs.read i s hi hl
  · obtain ⟨h4, b, o, c, tt, fz, h5, h6, h7⟩ := e3 h0
    have hfr := hs.fresh nx (Nat.le_refl _)
    have hle := Env.le_add (b := b) (r := 0) hfr
    have hne : ∀ i b', β i = some b' → i ≠ nx := by
      intro i b' h e; subst e; rw [hfr] at h; cases h
    refine ⟨o, β.add nx b 0, hle, ⟨base, room, e1, e2, fun h => (by cases h), fun h => (by cases h), fun _ => ⟨h4, b, Env.add_same _ _ _ _, by rw [h5]; simp, fun h => (by cases h)⟩⟩, ⟨⟨fun i s hi hl => ?_, fun i j s t hi hj hl ht hij => ?_, fun i s hi hl => ?_, hs.old, hs.os, hs.tape, hs.output, hs.size, Env.le_trans hs.pin hle⟩, fun i hi => ?_⟩, fun _ => ⟨b, c, tt, fz, Env.add_same _ _ _ _, h6, h7⟩⟩
    · obtain ⟨b', o', h1, h2, h3, h4, h5⟩ := hs.own i s hi hl
      have hn := hne i b' h1
      exact ⟨b', o', (Env.add_other _ _ _ hn).trans h1, h2, h3, ORel.mono hle _ _ h4, by rw [Env.add_room_other _ _ _ hn]; exact h5⟩
    · obtain ⟨b1, o1, h1, _⟩ := hs.own i s hi hl
      obtain ⟨b2, o2, h2, _⟩ := hs.own j t hj ht
      rw [Env.add_other _ _ _ (hne i b1 h1), Env.add_other _ _ _ (hne j b2 h2)]
      exact hs.apart i j s t hi hj hl ht hij
    · simp only [hget] at hi
      cases hb : Nat.beq i nx with
      | true =>
        rw [hb] at hi; simp only [cond_true, Option.some.injEq] at hi; subst hi
        have := beq_nat hb; subst this
        refine ⟨b, _, Env.add_same _ _ _ _, hK _ _ h6, c, fz, tt, .inl rfl, rfl, Nat.le_refl _, ?_, fun i k hi hk => ?_⟩
        · obtain ⟨u, hu, _⟩ := h7 (m - 1) (sz - 1) (by omega) (by omega)
          have := (Array.getElem?_eq_some_iff.1 hu).1
          have h8 : (m - 1) * sz + sz = m * sz := by
            obtain ⟨q, rfl⟩ : ∃ q, m = q + 1 := ⟨m - 1, by omega⟩
            simp [Nat.succ_mul]
          omega
        · obtain ⟨u, hu, hr⟩ := h7 i k hi hk
          exact ⟨u, hu, Rel.mono (Env.nil_le _) _ _ hr⟩
      | false =>
        rw [hb] at hi
        obtain ⟨b', o', h1, h2, h3⟩ := hs.read i s hi hl
        exact ⟨b', o', (Env.add_other _ _ _ (hne i b' h1)).trans h1, h2, ORel.mono hle _ _ h3⟩
    · rw [Env.add_other _ _ _ (by omega)]; exact hs.fresh i (by show nx ≤ i; omega)
section
variable {P : Program} {ro : Hp} {B : Base} {f : FuncId} {R : Ending → World → Prop}
/-- As run_openB; the row's block is bound. -/
theorem run_openBN {K : Kn} (hK : ∀ b o, K b = some o → B.D b = some o) (X k : Nat) {v : Value} {m sz : Nat} {g : Nat → Nat → SV} (hF : Froz K v m sz g) (hsz : 0 < sz) {us : List SV} {tyX : TypeId} {fn : FId} {n : Nat} {sl : Slots} {td : List SI} {rest : List SFr} {hp : Hp} {hp2 : Nat → Hp} {nx : Nat}
    (hX : hget X hp = some (.cells us tyX)) (hv : us[k]? = some (.val v)) {us' : Nat → List SV} (hus : ∀ off, us' off = us.set k (.sq nx off 0 sz m .no)) (hset2 : ∀ off, hset X (.cells (us' off) tyX) hp = some (hp2 off))
    {np : Nat} (hpin : PinTo B np) (hnp : np ≤ nx) (hr : ∀ off B', More B B' → B'.D = B.D → PinTo B' (nx + 1) → (0 < m → ∃ b c tt fz, B'.pin nx = some b ∧ K b = some (.cells c tt fz) ∧ ∀ i k, i < m → k < sz → ∃ u, c[off + i * sz + k]? = some u ∧ Rel Env.nil (g i k) u) → Run P ((nx, .row off m m sz g anyTy) :: ro) B' f R ⟨⟨fn, n, sl, td⟩, rest, hp2 off, nx + 1⟩) : Run P ro B f R ⟨⟨fn, n, sl, td⟩, rest, hp, nx⟩ := by
  intro β w fr frs cs hf hfs hs hcs
  obtain ⟨off, β', hle, hrel, hs', hkn⟩ := sat_openN hK hF hsz hs
  obtain ⟨bX, oX, x1, x2, x3, x4, x5⟩ := hs'.own X _ hX trivial
  obtain ⟨ws, y1, y2⟩ := x4
  obtain ⟨u, hu, hru⟩ := y2.get hv
  have hru : u = v ∧ _ := hru
  have old : ∀ i s, hget i (hp2 off) = some s → ∃ s0, hget i hp = some s0 ∧ (s.Live → s0.Live) ∧ ∀ o, (i = X → o = oX) → ORel β' s0 o → ORel β' s o := by
    intro i s hi'
    rw [hset_get (hset2 off) i] at hi'
    by_cases e : i = X
    · subst e
      rw [if_pos rfl, hX] at hi'
      simp only [Option.map_some, Option.some.injEq] at hi'
      subst hi'
      refine ⟨_, hX, fun h => h, fun o ho _ => ?_⟩
      rw [ho rfl, hus off]
      refine ⟨ws, y1, RelL.mk (by rw [List.length_set]; exact y2.length) fun a s' v' h1 h2 => ?_⟩
      rw [List.getElem?_set] at h1
      by_cases e2 : k = a
      · subst e2
        have hk : k < us.length := (List.getElem?_eq_some_iff.1 hv).1
        rw [if_pos rfl, if_pos hk] at h1
        injection h1 with h1; subst h1
        rw [hu] at h2; injection h2 with h2; subst h2
        rw [hru.1]; exact hrel
      · rw [if_neg e2] at h1
        obtain ⟨v2, q1, q2⟩ := y2.get h1
        rw [q1] at h2; injection h2 with h2; subst h2
        exact q2
    · rw [if_neg e] at hi'
      exact ⟨s, hi', fun h => h, fun o _ h => h⟩
  obtain ⟨B', hM, hD, hpn, hpl, hkn'⟩ : ∃ B' : Base, More B B' ∧ B'.D = B.D ∧ PinTo B' (nx + 1) ∧ B'.pin.le β' ∧ (0 < m → ∃ b c tt fz, B'.pin nx = some b ∧ K b = some (.cells c tt fz) ∧ ∀ i k, i < m → k < sz → ∃ u, c[off + i * sz + k]? = some u ∧ Rel Env.nil (g i k) u) := by
    rcases Nat.eq_zero_or_pos m with h0 | h0
    · exact ⟨B, ⟨rfl, rfl, Env.le_refl _, rfl⟩, rfl, hpin.more (by omega), hs'.pin, fun h => by omega⟩
    · obtain ⟨b, c, tt, fz, q1, q2, q3⟩ := hkn h0
      have hpk : B.pin nx = none := hpin.p nx hnp
      refine ⟨B.pinA nx b (β'.room nx), ⟨rfl, rfl, Env.le_add hpk, rfl⟩, rfl, (hpin.more (by omega)).pinA (by omega), ⟨fun i x hx => ?_, fun i x hx => ?_⟩, fun _ => ⟨b, c, tt, fz, Env.add_same _ _ _ _, q2, q3⟩⟩
      · by_cases h : i = nx
        · subst h
          have hx : (B.pin.add i b (β'.room i)) i = some x := hx
          rw [Env.add_same] at hx; injection hx with hx; subst hx; exact q1
        · have hx : (B.pin.add nx b (β'.room nx)) i = some x := hx
          rw [Env.add_other _ _ _ h] at hx; exact hs'.pin _ _ hx
      · by_cases h : i = nx
        · subst h
          show β'.room i = (B.pin.add i b (β'.room i)).room i
          rw [Env.add_room]
        · have hx : (B.pin.add nx b (β'.room nx)) i = some x := hx
          show β'.room i = (B.pin.add nx b (β'.room nx)).room i
          rw [Env.add_room_other _ _ _ h]; rw [Env.add_other _ _ _ h] at hx; exact hs'.pin.r _ _ hx
  have hcs' : B'.kd.pre cs := by rw [hM.kd]; exact hcs
  have hfin := hr off B' hM hD hpn hkn' β' w fr frs cs (hf.mono hle) (hfs.mono hle) ?_ hcs'
  · rw [hM.kd] at hfin; exact hfin
  refine ⟨⟨fun i s hi' hl => ?_, fun i j s t hi' hj' hl hl' => ?_, fun i s hi' hl => ?_, fun x o hx => ?_, by rw [hM.w]; exact hs'.os, by rw [hM.w]; exact hs'.tape, by rw [hM.w]; exact hs'.output, by rw [hM.w]; exact hs'.size, hpl⟩, hs'.fresh⟩
  rotate_left 2
  · rw [hD]; exact hs'.read i s hi' hl
  · rw [hD] at hx; exact hs'.old x o hx
  · obtain ⟨s0, h1, h2, h3⟩ := old i s hi'
    obtain ⟨b, o, k1, k2, k3, k4, k5⟩ := hs'.own i s0 h1 (h2 hl)
    refine ⟨b, o, k1, by rw [hD]; exact k2, k3, h3 o (fun e => ?_) k4, k5⟩
    subst e
    rw [x1] at k1; injection k1 with k1; subst k1
    rw [x3] at k3; injection k3 with k3; exact k3.symm
  · obtain ⟨s0, h1, h2, _⟩ := old i s hi'
    obtain ⟨t0, h1', h2', _⟩ := old j t hj'
    exact hs'.apart i j s0 t0 h1 h1' (h2 hl) (h2' hl')
/-- A part of a slice whose block is bound and known, in a cell of a block. -/
theorem run_shutP {K : Kn} {r b off s n' m : Nat} {ap : Ap} {c : Array Value} {tt : TypeId} {fz : Nat × Nat} {g : Nat → Nat → SV} (hb : B.pin r = some b) (hKb : K b = some (.cells c tt fz)) (hc : ∀ i k, i < m → k < 1 → ∃ u, c[off + i * 1 + k]? = some u ∧ Rel Env.nil (g i k) u) (hsn : s + n' ≤ m) (X j : Nat) {us : List SV} {tyX : TypeId} {fn : FId} {n : Nat} {sl : Slots} {td : List SI} {rest : List SFr} {hp : Hp} {hp2 : Value → Hp} {nx : Nat}
    (hX : hget X hp = some (.cells us tyX)) (hv : us[j]? = some (.sq r off s 1 n' ap)) (hset2 : ∀ v, hset X (.cells (us.set j (.val v)) tyX) hp = some (hp2 v))
    (hr : ∀ v, Froz K v n' 1 (fun i k => g (s + i) k) → Run P ro B f R ⟨⟨fn, n, sl, td⟩, rest, hp2 v, nx⟩) : Run P ro B f R ⟨⟨fn, n, sl, td⟩, rest, hp, nx⟩ := by
  intro β w fr frs cs hf hfs hs hcs
  obtain ⟨bX, oX, x1, x2, x3, x4, x5⟩ := hs.own X _ hX trivial
  obtain ⟨ws, y1, y2⟩ := x4
  obtain ⟨u, hu, hru⟩ := y2.get hv
  obtain ⟨base, room, e1, e2, e3, e4, e5⟩ := hru
  have hF : Froz K u n' 1 (fun i k => g (s + i) k) := by
    refine ⟨base, room, e1, e2, fun h0 => ?_⟩
    obtain ⟨g1, b', g2, g3, _⟩ := e5 h0
    have := hs.pin _ _ hb
    rw [g2] at this; injection this with this; subst this
    refine ⟨g1, b', off + s * 1, c, tt, fz, g3, hKb, fun i k hi hk => ?_⟩
    obtain ⟨u', hu', hr'⟩ := hc (s + i) k (by omega) hk
    exact ⟨u', by rw [← hu']; congr 1; omega, hr'⟩
  have hone : u.oneCell' = true := by rw [e1]; rfl
  have old : ∀ i s, hget i (hp2 u) = some s → ∃ s0, hget i hp = some s0 ∧ (s.Live → s0.Live) ∧ ∀ o, (i = X → o = oX) → ORel β s0 o → ORel β s o := by
    intro i s hi'
    rw [hset_get (hset2 u) i] at hi'
    by_cases e : i = X
    · subst e
      rw [if_pos rfl, hX] at hi'
      simp only [Option.map_some, Option.some.injEq] at hi'
      subst hi'
      refine ⟨_, hX, fun h => h, fun o ho _ => ?_⟩
      rw [ho rfl]
      refine ⟨ws, y1, RelL.mk (by rw [List.length_set]; exact y2.length) fun a s' v' h1 h2 => ?_⟩
      rw [List.getElem?_set] at h1
      by_cases e2 : j = a
      · subst e2
        have hk : j < us.length := (List.getElem?_eq_some_iff.1 hv).1
        rw [if_pos rfl, if_pos hk] at h1
        injection h1 with h1; subst h1
        rw [hu] at h2; injection h2 with h2; subst h2
        exact ⟨rfl, hone⟩
      · rw [if_neg e2] at h1
        obtain ⟨v2, q1, q2⟩ := y2.get h1
        rw [q1] at h2; injection h2 with h2; subst h2
        exact q2
    · rw [if_neg e] at hi'
      exact ⟨s, hi', fun h => h, fun o _ h => h⟩
  refine hr u hF β w fr frs cs hf hfs ⟨⟨fun i s hi' hl => ?_, fun i j s t hi' hj' hl hl' => ?_, hs.read, hs.old, hs.os, hs.tape, hs.output, hs.size, hs.pin⟩, hs.fresh⟩ hcs
  · obtain ⟨s0, h1, h2, h3⟩ := old i s hi'
    obtain ⟨b, o, k1, k2, k3, k4, k5⟩ := hs.own i s0 h1 (h2 hl)
    refine ⟨b, o, k1, k2, k3, h3 o (fun e => ?_) k4, k5⟩
    subst e
    rw [x1] at k1; injection k1 with k1; subst k1
    rw [x3] at k3; injection k3 with k3; exact k3.symm
  · obtain ⟨s0, h1, h2, _⟩ := old i s hi'
    obtain ⟨t0, h1', h2', _⟩ := old j t hj'
    exact hs.apart i j s0 t0 h1 h1' (h2 hl) (h2' hl')
end
end Sx
end
section
namespace Sx
open Go

/-- Keys of a type, told by enc. -/
structure Enc {α : Type} (P : Program) (kt : TypeId) (ok : α → Prop) (enc : α → Value) (sv : α → SV) : Prop where
  law : WideMaps.KeyLaw P kt
  key : ∀ a, ok a → ∃ l, Go.keyOf P kt (enc a) = some l
  inj : ∀ a b, enc a = enc b → a = b
  rel : ∀ (β : Env) a, Rel β (sv a) (enc a)
  det : ∀ (β : Env) a u, Rel β (sv a) u → u = enc a
/-- Entries that hold h, and no others. -/
structure GM {α : Type} (ok : α → Prop) (enc : α → Value) (h : α → Option Bool) (es : Array MapEntry) (clock : Nat) : Prop where
  st : MapKept.Stamped es clock
  ent : ∀ x ∈ es.toList, ∃ a b, ok a ∧ x.key = enc a ∧ h a = some b ∧ x.val = .bool b
  has : ∀ a b, h a = some b → ∃ x ∈ es.toList, x.key = enc a
theorem GM.empty {α : Type} (ok : α → Prop) (enc : α → Value) : GM ok enc (fun _ => none) #[] 0 := ⟨MapKept.stamped_empty 0, fun _ h => by simp at h, fun _ _ h => by cases h⟩
def gput {α : Type} [DecidableEq α] (h : α → Option Bool) (a : α) (b : Bool) : α → Option Bool := fun x => if x = a then some b else h x

section
variable {α : Type} {P : Program} {kt : TypeId} {ok : α → Prop} {enc : α → Value} {sv : α → SV} {h : α → Option Bool} {es : Array MapEntry} {clock : Nat}
theorem GM.find (E : Enc P kt ok enc sv) (g : GM ok enc h es clock) (w : World) (a : α) (ha : ok a) :
    ((Instr.findKey kt (enc a) es.toList).run P w = .ok none w ∧ h a = none ∧ ∀ e ∈ es.toList, e.key ≠ enc a) ∨
    ∃ j e b, (Instr.findKey kt (enc a) es.toList).run P w = .ok (some (j, .bool b)) w ∧ es.toList[j]? = some e ∧ e.key = enc a ∧ h a = some b := by
  obtain ⟨l, hl⟩ := E.key a ha
  rcases E.law.find w hl es.toList (fun e he => by
    obtain ⟨a', b', k1, k2, _⟩ := g.ent e he
    rw [k2]; exact E.key a' k1) with ⟨q1, q2⟩ | ⟨j, e, q1, q2, q3⟩
  · refine .inl ⟨q1, ?_, q2⟩
    cases hh : h a with
    | none => rfl
    | some b =>
      obtain ⟨x, x1, x2⟩ := g.has a b hh
      exact absurd x2 (q2 x x1)
  · obtain ⟨a', b', k1, k2, k3, k4⟩ := g.ent e (List.mem_of_getElem? q2)
    rw [q3] at k2
    have := E.inj _ _ k2
    subst this
    exact .inr ⟨j, e, b', by rw [q1, k4], q2, q3, k3⟩
variable [DecidableEq α]
theorem GM.push (E : Enc P kt ok enc sv) (g : GM ok enc h es clock) (a : α) (ha : ok a) (b : Bool) (hn : ∀ e ∈ es.toList, e.key ≠ enc a) : GM ok enc (gput h a b) (es.push { key := enc a, val := .bool b, born := clock }) (clock + 1) := by
  refine ⟨MapKept.stamped_push g.st hn, fun x hx => ?_, fun a' b' ha' => ?_⟩
  · rw [Array.toList_push, List.mem_append, List.mem_singleton] at hx
    rcases hx with hx | rfl
    · obtain ⟨a', b', k1, k2, k3, k4⟩ := g.ent x hx
      have hne : a' ≠ a := fun q => hn x hx (by rw [k2, q])
      exact ⟨a', b', k1, k2, by unfold gput; rw [if_neg hne]; exact k3, k4⟩
    · exact ⟨a, b, ha, rfl, by unfold gput; rw [if_pos rfl], rfl⟩
  · unfold gput at ha'
    by_cases q : a' = a
    · exact ⟨_, by rw [Array.toList_push]; exact List.mem_append_right _ (List.mem_singleton.2 rfl), by rw [q]⟩
    · rw [if_neg q] at ha'
      obtain ⟨x, x1, x2⟩ := g.has a' b' ha'
      exact ⟨x, by rw [Array.toList_push]; exact List.mem_append_left _ x1, x2⟩
theorem GM.mod (E : Enc P kt ok enc sv) (g : GM ok enc h es clock) (a : α) (b : Bool) {j : Nat} {e : MapEntry} (hj : es.toList[j]? = some e) (he : e.key = enc a) : GM ok enc (gput h a b) (es.modify j fun e => { e with key := enc a, val := .bool b }) clock := by
  have hj' : es[j]? = some e := by rw [← Array.getElem?_toList]; exact hj
  have hkeys : (es.modify j fun e => { e with key := enc a, val := Value.bool b }).toList.map (·.key) = es.toList.map (·.key) := MapKept.modify_keys j _ fun e' h' => by
    rw [hj'] at h'; injection h' with h'; subst h'; exact he.symm
  refine ⟨MapKept.stamped_modify g.st j _ (fun _ _ => rfl) fun e' _ h' => by rw [hj'] at h'; injection h' with h'; subst h'; exact he.symm, fun x hx => ?_, fun a' b' ha' => ?_⟩
  · obtain ⟨i, hi⟩ := List.getElem?_of_mem hx
    rw [Array.getElem?_toList, Array.getElem?_modify] at hi
    by_cases hij : j = i
    · subst hij
      rw [if_pos rfl, hj'] at hi
      injection hi with hi; subst hi
      obtain ⟨a', b', k1, k2, k3, k4⟩ := g.ent e (List.mem_of_getElem? hj)
      rw [he] at k2
      have := E.inj _ _ k2
      subst this
      exact ⟨a, b, k1, rfl, by unfold gput; rw [if_pos rfl], rfl⟩
    · rw [if_neg hij] at hi
      have hm : x ∈ es.toList := List.mem_of_getElem? (by rw [Array.getElem?_toList]; exact hi)
      obtain ⟨a', b', k1, k2, k3, k4⟩ := g.ent x hm
      have hne : a' ≠ a := by
        intro q
        subst q
        have q1 : (es.toList.map (·.key))[i]? = some (enc a') := by rw [List.getElem?_map, Array.getElem?_toList, hi, ← k2]; rfl
        have q2 : (es.toList.map (·.key))[j]? = some (enc a') := by rw [List.getElem?_map, hj, ← he]; rfl
        exact hij ((List.getElem?_inj (List.getElem?_eq_some_iff.1 q2).1 g.st.2.2).1 (q2.trans q1.symm))
      exact ⟨a', b', k1, k2, by unfold gput; rw [if_neg hne]; exact k3, k4⟩
  · have hm : ∃ x ∈ es.toList, x.key = enc a' := by
      unfold gput at ha'
      by_cases q : a' = a
      · subst q; exact ⟨e, List.mem_of_getElem? hj, he⟩
      · rw [if_neg q] at ha'; exact g.has a' b' ha'
    obtain ⟨x, x1, x2⟩ := hm
    have : x.key ∈ (es.modify j fun e => { e with key := enc a, val := Value.bool b }).toList.map (·.key) := by rw [hkeys]; exact List.mem_map.2 ⟨x, x1, rfl⟩
    obtain ⟨y, y1, y2⟩ := List.mem_map.1 this
    exact ⟨y, y1, y2.trans x2⟩
def SeenG (enc : α → Value) (es : Array MapEntry) (seen : Array Nat) (S : α → Bool) : Prop := ∀ x ∈ es.toList, ∀ a, x.key = enc a → seen.contains x.born = S a
def LastG (enc : α → Value) (es : Array MapEntry) (seen : Array Nat) (a : α) : Prop := ∃ e ∈ es.toList, ∃ s : Array Nat, seen = s.push e.born ∧ e.key = enc a
theorem seenG_zero {α : Type} (enc : α → Value) (es : Array MapEntry) : SeenG enc es #[] fun _ => false := fun x _ a _ => by simp
theorem seenG_push (hinj : ∀ a b, enc a = enc b → a = b) (hst : MapKept.Stamped es clock) {seen : Array Nat} {S : α → Bool} (hS : SeenG enc es seen S) {e : MapEntry} (he : e ∈ es.toList) {a : α} (hk : e.key = enc a) :
    SeenG enc es (seen.push e.born) fun x => decide (x = a) || S x := by
  intro x hx a' ha'
  have h0 := hS x hx a' ha'
  rw [Array.contains_push, h0]
  have : (x.born == e.born) = decide (a' = a) := by
    by_cases q1 : a' = a
    · subst q1
      rw [key_inj hst hx he (ha'.trans hk.symm)]; simp
    · have : x.born ≠ e.born := by
        intro e1
        have := born_inj hst hx he e1
        subst this
        exact q1 (hinj _ _ (ha'.symm.trans hk))
      simp [q1, this]
  rw [this, Bool.or_comm]
end

section
variable {α : Type} [DecidableEq α] {P : Program} {kt : TypeId} {ok : α → Prop} {enc : α → Value} {sv : α → SV} {h : α → Option Bool} {es : Array MapEntry} {clock : Nat}
variable {ro : Hp} {B : Base} {f : FuncId} {R : Ending → World → Prop}

def isMapOf (P : Program) (t kt : TypeId) : Bool := match P.underlying t with
  | some (.map k e) => Nat.beq k kt && (match P.underlying e with | some .bool => true | _ => false)
  | _ => false
/-- A lookup, with whether it is there. -/
theorem run_glook {α : Type} {ok : α → Prop} {enc : α → Value} {sv : α → SV} {h : α → Option Bool} (E : Enc P kt ok enc sv) (g : GM ok enc h es clock) (a : α) (ha : ok a) {et : TypeId} {fn : FId} {n : Nat} {sl sl' : Slots} {ops : Array Oper} {i0 : Nat} {o : Oper} {cur : List Oper} {tl : Option (List Nat)} {k : List SI} {rest : List SFr} {hp : Hp} {nx i : Nat} {t : TypeId} {x ix : Operand} {cs0 cs1 : List Prop}
    (ho : o.op = .lookup t x ix true) (hgd : guardIn ops sl o = some .run) (hx : evs sl x = some (cs0, .mp i)) (hc0 : conj cs0) (hix : evs sl ix = some (cs1, sv a)) (hc1 : conj cs1) (hm : P.underlying t = some (.map kt et)) (hz : zeroIn P et = some .ff) (hi : hget i hp = some (.obj (.map es clock)))
    (hput : put o.dst (.tup [.sb ((h a).getD false), .sb (h a).isSome]) n sl = some sl')
    (hr : Run P ro B f R ⟨⟨fn, n, sl', .reg ops (i0 + 1) cur tl :: k⟩, rest, hp, nx⟩) :
    Run P ro B f R ⟨⟨fn, n, sl, .reg ops i0 (o :: cur) tl :: k⟩, rest, hp, nx⟩ := by
  refine run_op hr hput ?_
  intro β w tmps b k' fs r dd hn hsl hlt hs hk hop
  have hw := guard_rel hgd hn hsl hlt
  have hrho : Rho β sl (Act.eval ⟨tmps, dd⟩) := ⟨hsl, fun _ => rfl, fun _ => rfl⟩
  obtain ⟨b0, hβ, hv⟩ := evs_rel hrho hx (all_conj hc0)
  have hxi := E.det _ _ _ (evs_rel hrho hix (all_conj hc1))
  obtain ⟨b', ob, k1, k2, k3, k4, k5⟩ := hs.own _ _ hi trivial
  rw [hβ] at k1; injection k1 with k1; subst k1
  have k4 : ob = .map es clock := k4
  subst k4
  obtain ⟨zv, z1, z2⟩ := zeroIn_run (P := P) hz β w
  have z2 : zv = .bool false := z2
  subst z2
  obtain ⟨lk, hlk⟩ := E.key a ha
  have hck := E.law.check w es.isEmpty hlk
  have key : (Instr.lookup t (.map (some b0)) (enc a) true).run P w = .ok (.tuple #[.bool ((h a).getD false), .bool (h a).isSome]) w := by
    rcases g.find E w a ha with ⟨q1, q2, _⟩ | ⟨j, e, bv, q1, _, _, q4⟩
    · simp only [Instr.lookup, Sem.run_bind, run_underlying hm, Result.andThen, MapKept.run_getObj_map k3, Sem.run_pure, hck, q1, z1, q2]
      rfl
    · simp only [Instr.lookup, Sem.run_bind, run_underlying hm, Result.andThen, MapKept.run_getObj_map k3, Sem.run_pure, hck, q1, q4]
      rfl
  refine ⟨β, w, .tuple #[.bool ((h a).getD false), .bool (h a).isSome], Env.le_refl _, hs, ⟨[.bool ((h a).getD false), .bool (h a).isSome], rfl, _, _, rfl, rfl, _, _, rfl, rfl, rfl⟩, .one (op_value hop hw ?_)⟩
  simp only [execOp, ho, Sem.run_bind]
  rw [show (Act.eval ⟨tmps, dd⟩ x) = .map (some b0) from hv, hxi]
  simp only [key, Result.andThen]
  rfl

theorem hset_any (i : Nat) (so : SO) : ∀ hp : Hp, ∃ hp', hset i so hp = some hp'
  | [] => ⟨[], rfl⟩
  | (j, v) :: l => by
    obtain ⟨l', e⟩ := hset_any i so l
    simp only [hset, e]
    cases Nat.beq i j <;> exact ⟨_, rfl⟩

/-- Whether a map is empty. -/
theorem run_glen {fn : FId} {n : Nat} {sl sl' : Slots} {ops : Array Oper} {i0 : Nat} {o : Oper} {cur : List Oper} {tl : Option (List Nat)} {k : List SI} {rest : List SFr} {hp : Hp} {nx i : Nat} {cs0 : List Prop}
    (ho : mlenArg P sl o.op = some (cs0, i)) (hgd : guardIn ops sl o = some .run) (hc0 : conj cs0) (hi : hget i hp = some (.obj (.map es clock))) (hput : put o.dst (.int .i64 es.size) n sl = some sl')
    (hr : Run P ro B f R ⟨⟨fn, n, sl', .reg ops (i0 + 1) cur tl :: k⟩, rest, hp, nx⟩) :
    Run P ro B f R ⟨⟨fn, n, sl, .reg ops i0 (o :: cur) tl :: k⟩, rest, hp, nx⟩ := by
  refine run_op hr hput ?_
  intro β w tmps b k' fs r dd hn hsl hlt hs hk hop
  have hw := guard_rel hgd hn hsl hlt
  have hrho : Rho β sl (Act.eval ⟨tmps, dd⟩) := ⟨hsl, fun _ => rfl, fun _ => rfl⟩
  generalize ho' : o.op = op at ho
  unfold mlenArg at ho
  split at ho <;> first | exact (none_ne ho).elim | skip
  rename_i as ts
  split at ho <;> first | exact (none_ne ho).elim | skip
  rename_i t cs1 i1 e1 e2
  split at ho <;> first | exact (none_ne ho).elim | skip
  rename_i kt et hu
  simp only [Option.some.injEq, Prod.mk.injEq] at ho
  obtain ⟨rfl, rfl⟩ := ho
  obtain ⟨v1, vs1, k1, ⟨bm, k2, rfl⟩, k3⟩ := evList_rel hrho e2 (all_conj hc0)
  have k3 : vs1 = [] := k3
  subst k3
  have ha : as.map (Act.eval ⟨tmps, dd⟩) = #[.map (some bm)] := by
    apply Array.toList_inj.1
    rw [Array.toList_map, k1]
  have ht : ts = #[t] := by apply Array.ext'; simpa using e1
  obtain ⟨b', ob, q1, q2, q3, q4, q5⟩ := hs.own _ _ hi trivial
  rw [k2] at q1; injection q1 with q1; subst q1
  have q4 : ob = .map es clock := q4
  subst q4
  refine ⟨β, w, .int .i64 es.size, Env.le_refl _, hs, rfl, .one (op_value hop hw ?_)⟩
  simp only [execOp, ho', Sem.run_bind, resolve, Sem.run_pure, Result.andThen, invoke, builtin, ha, ht]
  simp only [Builtin.len_, Sem.run_bind, run_underlying hu, Result.andThen, List.getElem?_toArray, List.getElem?_cons_zero, MapKept.run_getObj_map q3, Sem.run_pure]
  rfl

/-- A range over a map begins. -/
theorem run_grange (hB : B.ok) {fn : FId} {n : Nat} {sl sl' : Slots} {ops : Array Oper} {i0 : Nat} {o : Oper} {cur : List Oper} {tl : Option (List Nat)} {k : List SI} {rest : List SFr} {hp : Hp} {nx i : Nat} {t : TypeId} {x : Operand} {cs0 : List Prop}
    (ho : o.op = .range t x) (hgd : guardIn ops sl o = some .run) (hx : evs sl x = some (cs0, .mp i)) (hc0 : conj cs0) (hm : isMapB P t = true) (hi : hget i hp = some (.obj (.map es clock)))
    (hput : put o.dst (.ptr nx 0) n sl = some sl')
    (hr : Run P ro B f R ⟨⟨fn, n, sl', .reg ops (i0 + 1) cur tl :: k⟩, rest, (nx, .mit i clock #[] clock) :: hp, nx + 1⟩) :
    Run P ro B f R ⟨⟨fn, n, sl, .reg ops i0 (o :: cur) tl :: k⟩, rest, hp, nx⟩ := by
  obtain ⟨kt, et, hu⟩ := isMapB_spec hm
  refine run_op hr hput ?_
  intro β w tmps b k' fs r dd hn hsl hlt hs hk hop
  have hw := guard_rel hgd hn hsl hlt
  have hrho : Rho β sl (Act.eval ⟨tmps, dd⟩) := ⟨hsl, fun _ => rfl, fun _ => rfl⟩
  obtain ⟨b0, hβ, hv⟩ := evs_rel hrho hx (all_conj hc0)
  obtain ⟨b', ob, k1, k2, k3, k4, k5⟩ := hs.own _ _ hi trivial
  rw [hβ] at k1; injection k1 with k1; subst k1
  have k4 : ob = .map es clock := k4
  subst k4
  obtain ⟨β', l1, p1, r1, s1⟩ := hs.new (.mit i clock #[] clock) (.mapIter (some b0) clock #[] clock) hB (fun β' hle _ => ⟨b0, hle _ _ hβ, rfl⟩) trivial
  refine ⟨β', _, .pointer (some ⟨w.heap.size, 0, none⟩), l1, s1, ⟨w.heap.size, p1, rfl⟩, .one (op_value hop hw ?_)⟩
  simp [execOp, ho, hv, Instr.range, run_underlying hu, MapKept.run_getObj_map k3, Result.andThen]

/-- A range over a map goes on. -/
theorem run_gnext (E : Enc P kt ok enc sv) (g : GM ok enc h es clock) {S : α → Bool} {seen : Array Nat} (hS : SeenG enc es seen S) {fn : FId} {n : Nat} {sl : Slots} {ops : Array Oper} {i0 : Nat} {o : Oper} {cur : List Oper} {tl : Option (List Nat)} {k : List SI} {rest : List SFr} {hp : Hp} {nx i j : Nat} {x : Operand} {cs0 : List Prop}
    (ho : o.op = .next x false) (hgd : guardIn ops sl o = some .run) (hx : evs sl x = some (cs0, .ptr j 0)) (hc0 : conj cs0) (hj : hget j hp = some (.mit i clock seen clock)) (hi : hget i hp = some (.obj (.map es clock)))
    (h1 : (∀ a b, h a = some b → S a = true) → ∃ sl', put o.dst (.tup [.ff]) n sl = some sl' ∧ Run P ro B f R ⟨⟨fn, n, sl', .reg ops (i0 + 1) cur tl :: k⟩, rest, hp, nx⟩)
    (h2 : ∀ a bv seen', ok a → h a = some bv → S a = false → SeenG enc es seen' (fun x => decide (x = a) || S x) → LastG enc es seen' a → (leftOf es seen').size < (leftOf es seen).size →
      ∃ sl' hp', put o.dst (.tup [.tt, sv a, .sb bv]) n sl = some sl' ∧ hset j (.mit i clock seen' clock) hp = some hp' ∧ Run P ro B f R ⟨⟨fn, n, sl', .reg ops (i0 + 1) cur tl :: k⟩, rest, hp', nx⟩) :
    Run P ro B f R ⟨⟨fn, n, sl, .reg ops i0 (o :: cur) tl :: k⟩, rest, hp, nx⟩ := by
  refine run_opz (Z := Option (α × Bool × Array Nat)) (G := fun z => match z with
      | none => ∀ a b, h a = some b → S a = true
      | some (a, bv, seen') => ok a ∧ h a = some bv ∧ S a = false ∧ SeenG enc es seen' (fun x => decide (x = a) || S x) ∧ LastG enc es seen' a ∧ (leftOf es seen').size < (leftOf es seen).size)
    (sz := fun z => match z with
      | none => .tup [.ff]
      | some (a, bv, _) => .tup [.tt, sv a, .sb bv])
    (hpz := fun z => match z with
      | none => hp
      | some (_, _, seen') => (hset j (.mit i clock seen' clock) hp).getD []) (nxz := fun _ => nx) ?_ ?_
  · rintro (_ | ⟨a, bv, seen'⟩) hz
    · exact h1 hz
    · obtain ⟨z0, z1, z2, z3, z4, z5⟩ := hz
      obtain ⟨sl', hp', e1, e2, hr⟩ := h2 a bv seen' z0 z1 z2 z3 z4 z5
      exact ⟨sl', e1, by simp only [e2, Option.getD_some]; exact hr⟩
  · intro β w tmps b k' fs r dd hn hsl hlt hs hk hop
    have hw := guard_rel hgd hn hsl hlt
    have hrho : Rho β sl (Act.eval ⟨tmps, dd⟩) := ⟨hsl, fun _ => rfl, fun _ => rfl⟩
    obtain ⟨bj, hβj, hv⟩ := evs_rel hrho hx (all_conj hc0)
    obtain ⟨b', ob, k1, k2, k3, k4, k5⟩ := hs.own _ _ hj trivial
    rw [hβj] at k1; injection k1 with k1; subst k1
    obtain ⟨bm, hβi, rfl⟩ := k4
    obtain ⟨b'', ob', m1, m2, m3, m4, m5⟩ := hs.own _ _ hi trivial
    rw [hβi] at m1; injection m1 with m1; subst m1
    have m4 : ob' = .map es clock := m4
    subst m4
    have hold : ∀ x ∈ es.toList, x.born < clock := g.st.1
    rcases run_next_at (P := P) w o.type bj bm clock clock seen es clock k3 m3 hold (Nat.le_refl _) with ⟨n1, n2⟩ | ⟨e, he, w1, hw1, n2⟩
    · refine ⟨none, β, w, .tuple #[.bool false], fun a bv ha => ?_, Env.le_refl _, hs, ⟨[.bool false], rfl, _, _, rfl, rfl, rfl⟩, .one (op_value hop hw ?_)⟩
      · obtain ⟨x, hx', hxk⟩ := g.has a bv ha
        have := hS x hx' a hxk
        rw [← this]
        have hl : leftOf es seen = #[] := Array.eq_empty_of_size_eq_zero n1
        unfold leftOf at hl
        rw [Array.filter_eq_empty_iff] at hl
        have := hl x (Array.mem_toList_iff.1 hx')
        simpa using this
      · simp only [execOp, ho, Sem.run_bind]
        rw [show (Act.eval ⟨tmps, dd⟩ x) = .pointer (some ⟨bj, 0, none⟩) from hv, n2]
        rfl
    · obtain ⟨he1, he2⟩ := mem_left he
      obtain ⟨a, bv, hoka, ka, ha, hval⟩ := g.ent e he1
      have hSa : S a = false := by rw [← hS e he1 a ka]; exact he2
      have hs1 : Sat β hp ro B nx w1 := by rcases hw1 with rfl | rfl; exact hs; exact hs.drew
      have hh1 : w1.heap = w.heap := by rcases hw1 with rfl | rfl <;> rfl
      obtain ⟨hp', e2⟩ := hset_any j (.mit i clock (seen.push e.born) clock) hp
      have hlt' : bj < w.heap.size := (Array.getElem?_eq_some_iff.1 k3).1
      refine ⟨some (a, bv, seen.push e.born), β, ChangeMaps.setBlock w1 bj (.mapIter (some bm) clock (seen.push e.born) clock), .tuple #[.bool true, e.key, e.val], ⟨hoka, ha, hSa, seenG_push E.inj g.st hS he1 ka, ⟨e, he1, seen, rfl, ka⟩, left_push he1 he2⟩, Env.le_refl _, ?_,
        ⟨[.bool true, e.key, e.val], rfl, _, _, rfl, rfl, _, _, rfl, by rw [ka]; exact E.rel _ _, _, _, rfl, by rw [hval]; rfl, rfl⟩, .one (op_value hop hw ?_)⟩
      · simp only [e2, Option.getD_some]
        refine ⟨hs1.toMem.set e2 ⟨hj, trivial⟩ hβj ⟨bm, hβi, rfl⟩ ⟨trivial, k5.s⟩ ?_ (fun c hc => ?_) ?_ rfl rfl rfl, hs1.fresh⟩
        · simp [ChangeMaps.setBlock, hh1, hlt']
        · simp [ChangeMaps.setBlock, Ne.symm hc]
        · simp [ChangeMaps.setBlock]
      · simp only [execOp, ho, Sem.run_bind]
        rw [show (Act.eval ⟨tmps, dd⟩ x) = .pointer (some ⟨bj, 0, none⟩) from hv, n2]
        rfl
/-- The round's key. -/
theorem run_gentry {α : Type} {ok : α → Prop} {enc : α → Value} {sv : α → SV} {h : α → Option Bool} (E : Enc P kt ok enc sv) (g : GM ok enc h es clock) {seen : Array Nat} {a : α} {bv : Bool} (hL : LastG enc es seen a) (hab : h a = some bv) {fn : FId} {n : Nat} {sl sl' : Slots} {ops : Array Oper} {i0 : Nat} {o : Oper} {cur : List Oper} {tl : Option (List Nat)} {k : List SI} {rest : List SFr} {hp : Hp} {nx i j : Nat} {x : Operand} {cs0 : List Prop}
    (ho : o.op = .entry x) (hgd : guardIn ops sl o = some .run) (hx : evs sl x = some (cs0, .ptr j 0)) (hc0 : conj cs0) (hj : hget j hp = some (.mit i clock seen clock)) (hi : hget i hp = some (.obj (.map es clock)))
    (hput : put o.dst (.tup [sv a, .sb bv]) n sl = some sl') (hr : Run P ro B f R ⟨⟨fn, n, sl', .reg ops (i0 + 1) cur tl :: k⟩, rest, hp, nx⟩) :
    Run P ro B f R ⟨⟨fn, n, sl, .reg ops i0 (o :: cur) tl :: k⟩, rest, hp, nx⟩ := by
  refine run_op hr hput ?_
  intro β w tmps b k' fs r dd hn hsl hlt hs hk hop
  have hw := guard_rel hgd hn hsl hlt
  have hrho : Rho β sl (Act.eval ⟨tmps, dd⟩) := ⟨hsl, fun _ => rfl, fun _ => rfl⟩
  obtain ⟨bj, hβj, hv⟩ := evs_rel hrho hx (all_conj hc0)
  obtain ⟨b', ob, k1, k2, k3, k4, k5⟩ := hs.own _ _ hj trivial
  rw [hβj] at k1; injection k1 with k1; subst k1
  obtain ⟨bm, hβi, rfl⟩ := k4
  obtain ⟨b'', ob', m1, m2, m3, m4, m5⟩ := hs.own _ _ hi trivial
  rw [hβi] at m1; injection m1 with m1; subst m1
  have m4 : ob' = .map es clock := m4
  subst m4
  obtain ⟨e, he, s, rfl, ke⟩ := hL
  obtain ⟨a', bv', _, ka', hab', hval⟩ := g.ent e he
  rw [ke] at ka'
  have := E.inj _ _ ka'
  subst this
  rw [hab] at hab'; injection hab' with hab'; subst hab'
  refine ⟨β, w, .tuple #[e.key, e.val], Env.le_refl _, hs, ⟨[e.key, e.val], rfl, _, _, rfl, by rw [ke]; exact E.rel _ _, _, _, rfl, by rw [hval]; rfl, rfl⟩, .one (op_value hop hw ?_)⟩
  simp only [execOp, ho, Sem.run_bind]
  rw [show (Act.eval ⟨tmps, dd⟩ x) = .pointer (some ⟨bj, 0, none⟩) from hv, run_entry_at (P := P) w bj bm clock s es clock e k3 m3 he g.st.2.1]
  rfl
end
end Sx
end
section
namespace Sx
open Go
def rowC (g : Nat → SV) : (k c : Nat) → List SV → List SV
  | _, 0, r => r
  | k, c + 1, r => g k :: rowC g (k + 1) c r
def flatC (f : Nat → Nat → SV) (sz : Nat) : (e n : Nat) → List SV → List SV
  | _, 0, r => r
  | e, n + 1, r => rowC (f e) 0 sz (flatC f sz (e + 1) n r)
theorem relL_row {β : Env} {l : List SV} {tl : List Value} (hl : RelL β l tl) (g : Nat → SV) : ∀ (c k : Nat) (us : List Value), us.length = c → (∀ j, j < c → ∃ u, us[j]? = some u ∧ Rel β (g (k + j)) u) → RelL β (rowC g k c l) (us ++ tl) := by
  intro c
  induction c with
  | zero => intro k us h _; have : us = [] := List.eq_nil_of_length_eq_zero h; subst this; exact hl
  | succ c ih =>
    intro k us h hu
    cases us with
    | nil => cases h
    | cons u us =>
      obtain ⟨u', e1, e2⟩ := hu 0 (by omega)
      simp only [List.getElem?_cons_zero, Option.some.injEq] at e1
      subst e1
      refine ⟨u, us ++ tl, rfl, e2, ih (k + 1) us (by simpa using h) fun j hj => ?_⟩
      obtain ⟨u', e1, e2⟩ := hu (j + 1) (by omega)
      refine ⟨u', by simpa using e1, ?_⟩
      rw [show k + 1 + j = k + (j + 1) by omega]; exact e2
theorem relL_flat {β : Env} {l : List SV} {tl : List Value} (hl : RelL β l tl) (f : Nat → Nat → SV) (sz : Nat) : ∀ (n e : Nat) (ms : List Value), ms.length = n * sz → (∀ i k, i < n → k < sz → ∃ u, ms[i * sz + k]? = some u ∧ Rel β (f (e + i) k) u) → RelL β (flatC f sz e n l) (ms ++ tl) := by
  intro n
  induction n with
  | zero => intro e ms h _; have : ms = [] := List.eq_nil_of_length_eq_zero (by simpa using h); subst this; exact hl
  | succ n ih =>
    intro e ms h hu
    have hlen : ms.length = sz + n * sz := by rw [h, Nat.add_mul]; omega
    rw [← List.take_append_drop sz ms, List.append_assoc]
    refine relL_row (ih (e + 1) (ms.drop sz) (by rw [List.length_drop]; omega) fun i k hi hk => ?_) _ sz 0 _ (by rw [List.length_take]; omega) fun j hj => ?_
    · obtain ⟨u, e1, e2⟩ := hu (i + 1) k (by omega) hk
      refine ⟨u, ?_, by rw [show e + 1 + i = e + (i + 1) by omega]; exact e2⟩
      rw [List.getElem?_drop, ← e1]; congr 1; rw [Nat.add_mul]; omega
    · obtain ⟨u, e1, e2⟩ := hu 0 j (by omega) hj
      refine ⟨u, ?_, by simpa using e2⟩
      rw [List.getElem?_take_of_lt hj]; simpa using e1
section
variable {P : Program} {ro : Hp} {B : Base} {f : FuncId} {R : Ending → World → Prop}
theorem run_flat (i : Nat) {pre post us : List SV} {n sz : Nat} {g : Nat → Nat → SV} {ty : TypeId} {hp hp' : Hp} {fn : FId} {nn : Nat} {sl : Slots} {td : List SI} {rest : List SFr} {nx : Nat} (hi : hget i hp = some (.arr pre n sz g post ty)) (hu : us = pre ++ flatC g sz 0 n post) (hset2 : hset i (.cells us ty) hp = some hp')
    (hr : Run P ro B f R ⟨⟨fn, nn, sl, td⟩, rest, hp', nx⟩) : Run P ro B f R ⟨⟨fn, nn, sl, td⟩, rest, hp, nx⟩ := by
  subst hu
  intro β w fr frs cs hf hfs hs hcs
  have old : ∀ j s, hget j hp' = some s → ∃ s0, hget j hp = some s0 ∧ (s.Live → s0.Live) ∧ ∀ o, ORel β s0 o → ORel β s o := by
    intro j s hj
    rw [hset_get hset2 j] at hj
    by_cases e : j = i
    · subst e
      rw [if_pos rfl, hi] at hj
      simp only [Option.map_some, Option.some.injEq] at hj
      subst hj
      refine ⟨_, hi, fun _ => trivial, fun o ho => ?_⟩
      obtain ⟨us, ms, vs, e, h1, h2, h3, hf⟩ := ho
      refine ⟨us ++ ms ++ vs, e, ?_⟩
      rw [List.append_assoc]
      exact h1.append (relL_flat h2 g sz n 0 ms h3 fun i k hi hk => by rw [Nat.zero_add]; exact hf i k hi hk)
    · rw [if_neg e] at hj
      exact ⟨s, hj, fun h => h, fun o h => h⟩
  refine hr β w fr frs cs hf hfs ⟨⟨fun j s hj hl => ?_, fun j k s t hj hk hl hl' => ?_, hs.read, hs.old, hs.os, hs.tape, hs.output, hs.size, hs.pin⟩, hs.fresh⟩ hcs
  · obtain ⟨s0, h1, h2, h3⟩ := old j s hj
    obtain ⟨b, o, k1, k2, k3, k4, k5⟩ := hs.own j s0 h1 (h2 hl)
    exact ⟨b, o, k1, k2, k3, h3 o k4, k5⟩
  · obtain ⟨s0, h1, h2, _⟩ := old j s hj
    obtain ⟨t0, h1', h2', _⟩ := old k t hk
    exact hs.apart j k s0 t0 h1 h1' (h2 hl) (h2' hl')
end
end Sx
end
section
namespace Sx
open Go
section
variable {α : Type} [DecidableEq α]
def arrM (enc : α → Value) (L : List (α × Bool)) : Array MapEntry := (L.mapIdx fun i p => (⟨enc p.1, .bool p.2, i⟩ : MapEntry)).toArray
def lget (L : List (α × Bool)) (a : α) : Option Bool := (L.find? fun p => decide (p.1 = a)).map (·.2)
def lput (L : List (α × Bool)) (a : α) (b : Bool) : List (α × Bool) := bif L.any fun p => decide (p.1 = a) then L.map fun p => if p.1 = a then (a, b) else p else L ++ [(a, b)]
structure LM (ok : α → Prop) (L : List (α × Bool)) : Prop where
  nd : (L.map (·.1)).Nodup
  ok : ∀ p ∈ L, ok p.1
theorem LM.nil {α : Type} (ok : α → Prop) : LM ok [] := ⟨List.nodup_nil, fun _ h => by cases h⟩
theorem lget_mem {L : List (α × Bool)} {a : α} {b : Bool} (h : lget L a = some b) : (a, b) ∈ L := by
  unfold lget at h
  rw [Option.map_eq_some_iff] at h
  obtain ⟨p, h1, h2⟩ := h
  have h3 := List.find?_some h1
  rw [decide_eq_true_iff] at h3
  have := List.mem_of_find?_eq_some h1
  rw [show (a, b) = p from by rw [← h3, ← h2]]
  exact this
theorem lget_none {L : List (α × Bool)} {a : α} : lget L a = none ↔ ∀ p ∈ L, p.1 ≠ a := by
  unfold lget
  rw [Option.map_eq_none_iff, List.find?_eq_none]
  simp
theorem LM.get {ok : α → Prop} {L : List (α × Bool)} (h : LM ok L) {a : α} {b : Bool} (hm : (a, b) ∈ L) : lget L a = some b := by
  cases e : lget L a with
  | none => exact absurd rfl (lget_none.1 e _ hm)
  | some b' =>
    have h2 := lget_mem e
    obtain ⟨i, hi⟩ := List.getElem?_of_mem hm
    obtain ⟨j, hj⟩ := List.getElem?_of_mem h2
    have q1 : (L.map (·.1))[i]? = some a := by rw [List.getElem?_map, hi]; rfl
    have q2 : (L.map (·.1))[j]? = some a := by rw [List.getElem?_map, hj]; rfl
    have := (List.getElem?_inj (List.getElem?_eq_some_iff.1 q1).1 h.nd).1 (q1.trans q2.symm)
    subst this
    rw [hi] at hj; injection hj with hj; injection hj with _ hj; rw [hj]
theorem lany {L : List (α × Bool)} {a : α} : (L.any fun p => decide (p.1 = a)) = (lget L a).isSome := by
  cases e : lget L a with
  | none =>
    rw [Option.isSome_none, List.any_eq_false]
    intro p hp; rw [decide_eq_true_iff]; exact lget_none.1 e p hp
  | some b =>
    rw [Option.isSome_some, List.any_eq_true]
    exact ⟨_, lget_mem e, by simp⟩
theorem lput_keys (L : List (α × Bool)) (a : α) (b : Bool) : (lput L a b).map (·.1) = bif (lget L a).isSome then L.map (·.1) else L.map (·.1) ++ [a] := by
  unfold lput
  rw [lany]
  cases (lget L a).isSome with
  | true =>
    simp only [cond_true, List.map_map]
    refine List.map_congr_left fun p _ => ?_
    simp only [Function.comp]
    by_cases h : p.1 = a
    · rw [if_pos h]; exact h.symm
    · rw [if_neg h]
  | false => simp
theorem LM.put {ok : α → Prop} {L : List (α × Bool)} (h : LM ok L) {a : α} (ha : ok a) (b : Bool) : LM ok (lput L a b) := by
  constructor
  · rw [lput_keys]
    cases e : lget L a with
    | some _ => exact h.nd
    | none =>
      rw [Option.isSome_none, cond_false, List.nodup_append]
      exact ⟨h.nd, by simp, fun x hx y hy => by
        rw [List.mem_singleton] at hy
        subst hy
        obtain ⟨p, p1, p2⟩ := List.mem_map.1 hx
        rw [← p2]; exact lget_none.1 e p p1⟩
  · intro p hp
    have hk : p.1 ∈ (lput L a b).map (·.1) := List.mem_map.2 ⟨p, hp, rfl⟩
    rw [lput_keys] at hk
    cases e : (lget L a).isSome with
    | true =>
      rw [e, cond_true] at hk
      obtain ⟨q, q1, q2⟩ := List.mem_map.1 hk
      rw [← q2]; exact h.ok q q1
    | false =>
      rw [e, cond_false, List.mem_append, List.mem_singleton] at hk
      rcases hk with hk | hk
      · obtain ⟨q, q1, q2⟩ := List.mem_map.1 hk
        rw [← q2]; exact h.ok q q1
      · rw [hk]; exact ha
theorem lget_put (L : List (α × Bool)) (a : α) (b : Bool) (x : α) : lget (lput L a b) x = if x = a then some b else lget L x := by
  unfold lput
  rw [lany]
  cases e : lget L a with
  | some b0 =>
    rw [Option.isSome_some, cond_true]
    have hm : ∃ p ∈ L, p.1 = a := ⟨_, lget_mem e, rfl⟩
    clear e
    by_cases hx : x = a
    · rw [if_pos hx, hx]
      unfold lget
      induction L with
      | nil => obtain ⟨p, hp, _⟩ := hm; cases hp
      | cons q L ih =>
        simp only [List.map_cons, List.find?_cons]
        by_cases hq : q.1 = a
        · simp [hq]
        · rw [if_neg hq]
          simp only [hq, decide_false]
          refine ih ?_
          obtain ⟨p, hp, e⟩ := hm
          rcases List.mem_cons.1 hp with rfl | hp
          · exact absurd e hq
          · exact ⟨p, hp, e⟩
    · rw [if_neg hx]
      clear hm
      unfold lget
      induction L with
      | nil => rfl
      | cons q L ih =>
        simp only [List.map_cons, List.find?_cons]
        by_cases hq : q.1 = a
        · have h1 : ¬ (a = x) := fun h => hx h.symm
          have h2 : ¬ (q.1 = x) := fun h => hx (h.symm.trans hq)
          rw [if_pos hq]
          simp only [h1, decide_false, h2]
          exact ih
        · rw [if_neg hq]
          by_cases h2 : q.1 = x
          · simp only [h2, decide_true, Option.map_some]
          · simp only [h2, decide_false]
            exact ih
  | none =>
    rw [Option.isSome_none, cond_false]
    unfold lget
    rw [List.find?_append]
    by_cases hx : x = a
    · rw [if_pos hx, hx]
      unfold lget at e
      rw [Option.map_eq_none_iff] at e
      rw [e]; simp
    · rw [if_neg hx]
      have h1 : ¬ (a = x) := fun h => hx h.symm
      cases L.find? fun p => decide (p.1 = x) <;> simp [h1]
theorem arrM_get {α : Type} (enc : α → Value) (L : List (α × Bool)) (i : Nat) : (arrM enc L)[i]? = (L[i]?).map fun p => (⟨enc p.1, .bool p.2, i⟩ : MapEntry) := by
  unfold arrM
  rw [List.getElem?_toArray, List.getElem?_mapIdx]
theorem arrM_size {α : Type} (enc : α → Value) (L : List (α × Bool)) : (arrM enc L).size = L.length := by simp [arrM]
theorem arrM_mem {α : Type} {enc : α → Value} {L : List (α × Bool)} {x : MapEntry} : x ∈ (arrM enc L).toList ↔ ∃ i p, L[i]? = some p ∧ x = ⟨enc p.1, .bool p.2, i⟩ := by
  constructor
  · intro h
    obtain ⟨i, hi⟩ := List.getElem?_of_mem h
    rw [Array.getElem?_toList, arrM_get, Option.map_eq_some_iff] at hi
    obtain ⟨p, h1, h2⟩ := hi
    exact ⟨i, p, h1, h2.symm⟩
  · rintro ⟨i, p, h1, rfl⟩
    exact List.mem_of_getElem? (by rw [Array.getElem?_toList, arrM_get, h1]; rfl)
theorem LM.gm {P : Program} {kt : TypeId} {ok : α → Prop} {enc : α → Value} {sv : α → SV} (E : Enc P kt ok enc sv) {L : List (α × Bool)} (h : LM ok L) : GM ok enc (lget L) (arrM enc L) L.length := by
  refine ⟨⟨?_, ?_, ?_⟩, ?_, ?_⟩
  · intro x hx
    obtain ⟨i, p, h1, rfl⟩ := arrM_mem.1 hx
    exact (List.getElem?_eq_some_iff.1 h1).1
  · have : (arrM enc L).toList.map (·.born) = List.range L.length := by
      apply List.ext_getElem?
      intro i
      rw [List.getElem?_map, Array.getElem?_toList, arrM_get]
      by_cases hi : i < L.length
      · rw [List.getElem?_range hi, List.getElem?_eq_getElem hi]; rfl
      · rw [List.getElem?_eq_none (by omega), List.getElem?_eq_none (by simp; omega)]; rfl
    rw [this]; exact List.nodup_range
  · have : (arrM enc L).toList.map (·.key) = (L.map (·.1)).map enc := by
      apply List.ext_getElem?
      intro i
      rw [List.getElem?_map, Array.getElem?_toList, arrM_get, List.getElem?_map, List.getElem?_map]
      cases L[i]? <;> rfl
    rw [this]
    exact List.Pairwise.map enc (fun a b hab he => hab (E.inj _ _ he)) h.nd
  · intro x hx
    obtain ⟨i, p, h1, rfl⟩ := arrM_mem.1 hx
    have hm := List.mem_of_getElem? h1
    exact ⟨p.1, p.2, h.ok p hm, rfl, h.get hm, rfl⟩
  · intro a b hab
    obtain ⟨i, hi⟩ := List.getElem?_of_mem (lget_mem hab)
    exact ⟨_, arrM_mem.2 ⟨i, _, hi, rfl⟩, rfl⟩
end
section
variable {α : Type} [DecidableEq α] {P : Program} {kt : TypeId} {ok : α → Prop} {enc : α → Value} {sv : α → SV}
variable {ro : Hp} {B : Base} {f : FuncId} {R : Ending → World → Prop}
/-- An entry is set, in a map told by its list. -/
theorem run_lput (E : Enc P kt ok enc sv) {L : List (α × Bool)} (hL : LM ok L) (a : α) (ha : ok a) (bv : Bool) {xs : SV} (hxs : ∀ β u, Rel β xs u → u = .bool bv) {et : TypeId} {fn : FId} {n : Nat} {sl sl' : Slots} {ops : Array Oper} {i0 : Nat} {o : Oper} {cur : List Oper} {tl : Option (List Nat)} {k : List SI} {rest : List SFr} {hp hp' : Hp} {nx i : Nat} {t : TypeId} {x ix vx : Operand} {cs0 cs1 cs2 : List Prop}
    (ho : o.op = .mapUpdate t x ix vx ∨ o.op = .insert t x ix vx) (hgd : guardIn ops sl o = some .run) (hx : evs sl x = some (cs0, .mp i)) (hc0 : conj cs0) (hix : evs sl ix = some (cs1, sv a)) (hc1 : conj cs1) (hvx : evs sl vx = some (cs2, xs)) (hc2 : conj cs2) (hm : P.underlying t = some (.map kt et)) (hi : hget i hp = some (.obj (.map (arrM enc L) L.length)))
    (hput : put o.dst .und n sl = some sl') (hset2 : hset i (.obj (.map (arrM enc (lput L a bv)) (lput L a bv).length)) hp = some hp')
    (hr : Run P ro B f R ⟨⟨fn, n, sl', .reg ops (i0 + 1) cur tl :: k⟩, rest, hp', nx⟩) :
    Run P ro B f R ⟨⟨fn, n, sl, .reg ops i0 (o :: cur) tl :: k⟩, rest, hp, nx⟩ := by
  refine run_op hr hput ?_
  intro β w tmps b k' fs r dd hn hsl hlt hs hk hop
  have hw := guard_rel hgd hn hsl hlt
  have hrho : Rho β sl (Act.eval ⟨tmps, dd⟩) := ⟨hsl, fun _ => rfl, fun _ => rfl⟩
  obtain ⟨b0, hβ, hv⟩ := evs_rel hrho hx (all_conj hc0)
  have hxi := E.det _ _ _ (evs_rel hrho hix (all_conj hc1))
  have hxv := hxs _ _ (evs_rel hrho hvx (all_conj hc2))
  obtain ⟨b', ob, k1, k2, k3, k4, k5⟩ := hs.own _ _ hi trivial
  rw [hβ] at k1; injection k1 with k1; subst k1
  have k4 : ob = .map (arrM enc L) L.length := k4
  subst k4
  obtain ⟨lk, hlk⟩ := E.key a ha
  have hck := E.law.check w false hlk
  have g := hL.gm E
  have hlt' : b0 < w.heap.size := (Array.getElem?_eq_some_iff.1 k3).1
  have hrun : (Instr.mapUpdate t (.map (some b0)) (enc a) (.bool bv)).run P w = .ok () { w with heap := w.heap.setIfInBounds b0 (.map (arrM enc (lput L a bv)) (lput L a bv).length) } := by
    rcases g.find E w a ha with ⟨q1, q2, q3⟩ | ⟨j, e, bv', q1, q2, q3, q4⟩
    · have e1 : lput L a bv = L ++ [(a, bv)] := by unfold lput; rw [lany, q2]; rfl
      have e2 : arrM enc (L ++ [(a, bv)]) = (arrM enc L).push ⟨enc a, .bool bv, L.length⟩ := by
        unfold arrM
        rw [List.mapIdx_append]
        simp
      simp only [Instr.mapUpdate, Sem.run_bind, run_underlying hm, Result.andThen, MapKept.run_getObj_map k3, hck, q1, MapKept.run_setObj_map _ k3, e1, e2, List.length_append, List.length_singleton]
    · have e1 : lput L a bv = L.map fun p => if p.1 = a then (a, bv) else p := by unfold lput; rw [lany, q4]; rfl
      have hj' : (arrM enc L)[j]? = some e := by rw [← Array.getElem?_toList]; exact q2
      have e2 : (arrM enc L).modify j (fun e => { e with key := enc a, val := .bool bv }) = arrM enc (L.map fun p => if p.1 = a then (a, bv) else p) := by
        apply Array.ext_getElem?
        intro i
        rw [Array.getElem?_modify, arrM_get, arrM_get, List.getElem?_map]
        rw [arrM_get, Option.map_eq_some_iff] at hj'
        obtain ⟨p, p1, rfl⟩ := hj'
        have hpa : p.1 = a := E.inj _ _ q3
        by_cases hij : j = i
        · subst hij
          rw [if_pos rfl, p1]
          simp [hpa]
        · rw [if_neg hij]
          cases hLi : L[i]? with
          | none => rfl
          | some q =>
            have hqa : q.1 ≠ a := by
              intro q0
              have s1 : (L.map (·.1))[i]? = some a := by rw [List.getElem?_map, hLi, ← q0]; rfl
              have s2 : (L.map (·.1))[j]? = some a := by rw [List.getElem?_map, p1, ← hpa]; rfl
              exact hij ((List.getElem?_inj (List.getElem?_eq_some_iff.1 s2).1 hL.nd).1 (s2.trans s1.symm))
            simp [hqa]
      simp only [Instr.mapUpdate, Sem.run_bind, run_underlying hm, Result.andThen, MapKept.run_getObj_map k3, hck, q1, hj', Option.map_some, Option.getD_some, q3, E.law.stays w hlk, MapKept.run_setObj_map _ k3, e1, e2, List.length_map]
  refine ⟨β, { w with heap := w.heap.setIfInBounds b0 (.map (arrM enc (lput L a bv)) (lput L a bv).length) }, undef, Env.le_refl _, ?_, trivial, .one (op_unit hop hw ?_)⟩
  · exact ⟨hs.toMem.set hset2 ⟨hi, trivial⟩ hβ rfl ⟨trivial, k5.s⟩ (by simp [hlt']) (fun j hj => by simp [Ne.symm hj]) (by simp) rfl rfl rfl, hs.fresh⟩
  · rcases ho with ho | ho <;>
    · simp only [execOp, ho, Sem.run_bind]
      rw [show (Act.eval ⟨tmps, dd⟩ x) = .map (some b0) from hv, hxi, hxv]
      simp only [hrun, Result.andThen]
      rfl
end
end Sx
end
section
namespace Sx
open Go
/-- Another name of a row to read, of which more is said. -/
theorem sat_alias {B : Base} {β : Env} {hp ro : Hp} {nx X : Nat} {w : World} {s s' : SO} (hs : Sat β hp ro B nx w) (hX : hget X ro = some s) (hl : s.Live) (hl' : s'.Live) (h : ∀ o, ORel β s o → ORel β s' o) :
    ∃ β' : Env, β.le β' ∧ (∃ b, β' nx = some b ∧ β' X = some b) ∧ Sat β' hp ((nx, s') :: ro) B (nx + 1) w := by
  obtain ⟨b, o, g1, g2, g3⟩ := hs.read X s hX hl
  have hfr := hs.fresh nx (Nat.le_refl _)
  have hle := Env.le_add (b := b) (r := 0) hfr
  have hne : ∀ i b', β i = some b' → i ≠ nx := by
    intro i b' h e; subst e; rw [hfr] at h; cases h
  refine ⟨β.add nx b 0, hle, ⟨b, Env.add_same _ _ _ _, hle X b g1⟩, ⟨⟨fun i s hi hl => ?_, fun i j s t hi hj hl ht hij => ?_, fun i s hi hl => ?_, hs.old, hs.os, hs.tape, hs.output, hs.size, Env.le_trans hs.pin hle⟩, fun i hi => ?_⟩⟩
  · obtain ⟨b', o', h1, h2, h3, h4, h5⟩ := hs.own i s hi hl
    have hn := hne i b' h1
    exact ⟨b', o', (Env.add_other _ _ _ hn).trans h1, h2, h3, ORel.mono hle _ _ h4, by rw [Env.add_room_other _ _ _ hn]; exact h5⟩
  · obtain ⟨b1, o1, h1, _⟩ := hs.own i s hi hl
    obtain ⟨b2, o2, h2, _⟩ := hs.own j t hj ht
    rw [Env.add_other _ _ _ (hne i b1 h1), Env.add_other _ _ _ (hne j b2 h2)]
    exact hs.apart i j s t hi hj hl ht hij
  · simp only [hget] at hi
    cases hb : Nat.beq i nx with
    | true =>
      rw [hb] at hi; simp only [cond_true, Option.some.injEq] at hi; subst hi
      have := beq_nat hb; subst this
      exact ⟨b, o, Env.add_same _ _ _ _, g2, ORel.mono hle _ _ (h o g3)⟩
    | false =>
      rw [hb] at hi
      obtain ⟨b', o', h1, h2, h3⟩ := hs.read i s hi hl
      exact ⟨b', o', (Env.add_other _ _ _ (hne i b' h1)).trans h1, h2, ORel.mono hle _ _ h3⟩
  · rw [Env.add_other _ _ _ (by omega)]; exact hs.fresh i (by show nx ≤ i; omega)
theorem RelL.setAt {β : Env} {so : SV} {v : Value} (hr : Rel β so v) : ∀ (us : List SV) (vs : List Value) (k : Nat), us[k]? = some (.val v) → RelL β us vs → RelL β (us.set k so) vs
  | [], _, _, h, _ => by simp at h
  | _ :: us, _, 0, h, ⟨u, vs, e, h1, h2⟩ => by
    simp only [List.getElem?_cons_zero, Option.some.injEq] at h
    subst h
    have h1 : u = v := h1.1
    subst h1
    exact ⟨u, vs, e, hr, h2⟩
  | _ :: us, _, k + 1, h, ⟨u, vs, e, h1, h2⟩ => by
    rw [List.getElem?_cons_succ] at h
    exact ⟨u, vs, e, h1, RelL.setAt hr us vs k h h2⟩
section
variable {P : Program} {ro : Hp} {B : Base} {f : FuncId} {R : Ending → World → Prop}
/-- A slice in a cell of a block that is only read is laid open. -/
theorem run_openRo {K : Kn} (hB : B.ok) (hK : ∀ b o, K b = some o → B.D b = some o) (t X k : Nat) {v : Value} {m sz : Nat} {g : Nat → Nat → SV} (hF : Froz K v m sz g) (hsz : 0 < sz) {us : List SV} {tyX : TypeId} {fn : FId} {n : Nat} {sl : Slots} {td : List SI} {rest : List SFr} {hp : Hp} {nx : Nat}
    (ht : look t sl = some (.ptr X 0)) (hX : hget X ((nx, .row 0 0 0 0 g anyTy) :: ro) = some (.cells us tyX)) (hv : us[k]? = some (.val v))
    (hr : ∀ off, Run P ((nx + 1, .cells (us.set k (.sq nx off 0 sz m .no)) tyX) :: (nx, .row off m m sz g anyTy) :: ro) B f R ⟨⟨fn, n, (t, .ptr (nx + 1) 0) :: sl, td⟩, rest, hp, nx + 2⟩) : Run P ro B f R ⟨⟨fn, n, sl, td⟩, rest, hp, nx⟩ := by
  intro β w fr frs cs hf hfs hs hcs
  obtain ⟨off, β1, hle1, hrel, hs1⟩ := sat_open hK hF hsz hs
  have hX' : hget X ((nx, .row off m m sz g anyTy) :: ro) = some (.cells us tyX) := by
    simp only [hget] at hX ⊢
    cases hb : Nat.beq X nx with
    | true => rw [hb] at hX; cases hX
    | false => rw [hb] at hX; exact hX
  obtain ⟨β2, hle2, ⟨b, hb1, hb2⟩, hs2⟩ := sat_alias (s' := .cells (us.set k (.sq nx off 0 sz m .no)) tyX) hs1 hX' trivial trivial (fun o ⟨ws, e, hw⟩ => ⟨ws, e, RelL.setAt hrel us ws k hv hw⟩)
  have hf2 : FrRel β2 ⟨fn, n, (t, .ptr (nx + 1) 0) :: sl, td⟩ fr := by
    have h2 := (hf.mono hle1).mono hle2
    refine { h2 with slot := fun t' u hu => ?_, lt := fun t' u hu => ?_ }
    · simp only [look] at hu
      cases hbt : Nat.beq t' t with
      | true =>
        rw [hbt] at hu; simp only [cond_true, Option.some.injEq] at hu; subst hu
        have := beq_nat hbt; subst this
        obtain ⟨b', q1, q2⟩ := h2.slot _ _ ht
        rw [hb2] at q1; injection q1 with q1; subst q1
        exact ⟨b, hb1, q2⟩
      | false => rw [hbt] at hu; exact h2.slot t' u hu
    · simp only [look] at hu
      cases hbt : Nat.beq t' t with
      | true => have := beq_nat hbt; subst this; exact h2.lt _ _ ht
      | false => rw [hbt] at hu; exact h2.lt t' u hu
  exact hr off β2 w fr frs cs hf2 ((hfs.mono hle1).mono hle2) hs2 hcs
end
end Sx
end
section
namespace Sx
open Go
theorem hck_of_hcx {ι : Type} {P : Program} {K : Kn} {f : FuncId} {xs : List SV} {hp ro : Hp} {nx : Nat} {ψ : ι → Prop} {out : ι → Out} (h : HCX P K M0 f xs hp ro nx (fun z _ => ψ z) out) : HCK P K f xs hp ro nx ψ out := by
  intro B β w vs hB hK hl hs
  refine (h B β w vs hB hK hl hs).mono ?_
  rintro e w' ⟨z, β', u, B', K', h1, h2, h3, h4, hF, h5⟩
  refine ⟨z, β', u, h1, h2, h3, h4, ⟨⟨fun i s hi hl => ?_, h5.apart, fun i s hi hl => ?_, fun b o hb => h5.old b o (hF.keep b o hb fun q => q), h5.os.trans hF.os, h5.tape.trans hF.tape, h5.output.trans hF.output, Nat.le_trans hF.size h5.size, Env.le_trans hF.pin h5.pin⟩, h5.fresh⟩⟩
  · obtain ⟨b, o, g1, g2, g3, g4, g5⟩ := h5.own i s hi hl
    refine ⟨b, o, g1, ?_, g3, g4, g5⟩
    cases e : B.D b with
    | none => rfl
    | some o' => rw [hF.keep b o' e fun q => q] at g2; cases g2
  · obtain ⟨b, o, g1, g2, g3⟩ := hs.read i s hi hl
    exact ⟨b, o, h2 i b g1, g2, ORel.mono h2 _ _ g3⟩
end Sx
end
section
namespace Sx
open Go
section
variable {P : Program} {ro : Hp} {B : Base} {f : FuncId} {R : Ending → World → Prop}
theorem run_invXK {ι : Type} {B0 : Base} {K0 K : Kn} {M : Nat → Prop} {np : Nat} (hF : Fz B0 K0 M B K) (hpin : PinTo B np) (I : ι → Kn → Prop) (μ : ι → Nat) (slI : ι → Slots) (rsI : ι → List Slots) (ks : List Nat) (hpI : ι → Hp) (nxI : Nat) (x0 : ι) (h0 : I x0 K) (sg : List Nat)
    {fn : FId} {n : Nat} {sl : Slots} {td : List SI} {rest : List SFr} {hp : Hp} {nx : Nat} {cs : List Prop} (hl : sg.length = nxI) (h : weakC nx sg np ro sl (slI x0) rest (reSl rest (rsI x0)) hp (pickH hp (hpI x0) ks) = some cs) (hc : conj cs)
    (step : ∀ (x : ι) (B' : Base) (K' : Kn), Fz B0 K0 M B' K' → PinTo B' np → I x K' → (∀ (y : ι) (B'' : Base) (K'' : Kn), Fz B0 K0 M B'' K'' → PinTo B'' np → I y K'' → μ y < μ x → Run P ro B'' f R ⟨⟨fn, n, slI y, td⟩, reSl rest (rsI y), pickH hp (hpI y) ks, nxI⟩) →
      Run P ro B' f R ⟨⟨fn, n, slI x, td⟩, reSl rest (rsI x), pickH hp (hpI x) ks, nxI⟩) (hdf : dfKeep nx sg fn.dfs := by first | trivial | exact ⟨rfl, rfl, trivial⟩) :
    Run P ro B f R ⟨⟨fn, n, sl, td⟩, rest, hp, nx⟩ :=
  run_to hpin sg hl h hc (run_invX hF hpin I μ slI (fun x => reSl rest (rsI x)) (fun x => pickH hp (hpI x) ks) x0 h0 step) hdf
end
end Sx
end
section
namespace Sx
open Go
section
variable {P : Program} {ro : Hp} {B : Base} {f : FuncId} {R : Ending → World → Prop}
/-- A slice that was laid open by run_openBN is closed to a value with the same row. -/
theorem run_shutN {K : Kn} {r off sz m : Nat} {ap : Ap} {g : Nat → Nat → SV} (hkn : 0 < m → ∃ b c tt fz, B.pin r = some b ∧ K b = some (.cells c tt fz) ∧ ∀ i k, i < m → k < sz → ∃ u, c[off + i * sz + k]? = some u ∧ Rel Env.nil (g i k) u) (X j : Nat) {us : List SV} {tyX : TypeId} {fn : FId} {n : Nat} {sl : Slots} {td : List SI} {rest : List SFr} {hp : Hp} {hp2 : Value → Hp} {nx : Nat}
    (hX : hget X hp = some (.cells us tyX)) (hv : us[j]? = some (.sq r off 0 sz m ap)) (hset2 : ∀ v, hset X (.cells (us.set j (.val v)) tyX) hp = some (hp2 v))
    (hr : ∀ v, Froz K v m sz g → Run P ro B f R ⟨⟨fn, n, sl, td⟩, rest, hp2 v, nx⟩) : Run P ro B f R ⟨⟨fn, n, sl, td⟩, rest, hp, nx⟩ := by
  intro β w fr frs cs hf hfs hs hcs
  obtain ⟨bX, oX, x1, x2, x3, x4, x5⟩ := hs.own X _ hX trivial
  obtain ⟨ws, y1, y2⟩ := x4
  obtain ⟨u, hu, hru⟩ := y2.get hv
  obtain ⟨base, room, e1, e2, e3, e4, e5⟩ := hru
  have hF : Froz K u m sz g := by
    refine ⟨base, room, e1, e2, fun h0 => ?_⟩
    obtain ⟨g1, b', g2, g3, _⟩ := e5 h0
    obtain ⟨b, c, tt, fz, hb, hKb, hc⟩ := hkn h0
    have := hs.pin _ _ hb
    rw [g2] at this; injection this with this; subst this
    refine ⟨g1, b', off + 0 * sz, c, tt, fz, g3, hKb, fun i k hi hk => ?_⟩
    obtain ⟨u', hu', hr'⟩ := hc i k hi hk
    exact ⟨u', by rw [← hu']; congr 1; omega, hr'⟩
  have hone : u.oneCell' = true := by rw [e1]; rfl
  have old : ∀ i s, hget i (hp2 u) = some s → ∃ s0, hget i hp = some s0 ∧ (s.Live → s0.Live) ∧ ∀ o, (i = X → o = oX) → ORel β s0 o → ORel β s o := by
    intro i s hi'
    rw [hset_get (hset2 u) i] at hi'
    by_cases e : i = X
    · subst e
      rw [if_pos rfl, hX] at hi'
      simp only [Option.map_some, Option.some.injEq] at hi'
      subst hi'
      refine ⟨_, hX, fun h => h, fun o ho _ => ?_⟩
      rw [ho rfl]
      refine ⟨ws, y1, RelL.mk (by rw [List.length_set]; exact y2.length) fun a s' v' h1 h2 => ?_⟩
      rw [List.getElem?_set] at h1
      by_cases e2 : j = a
      · subst e2
        have hk : j < us.length := (List.getElem?_eq_some_iff.1 hv).1
        rw [if_pos rfl, if_pos hk] at h1
        injection h1 with h1; subst h1
        rw [hu] at h2; injection h2 with h2; subst h2
        exact ⟨rfl, hone⟩
      · rw [if_neg e2] at h1
        obtain ⟨v2, q1, q2⟩ := y2.get h1
        rw [q1] at h2; injection h2 with h2; subst h2
        exact q2
    · rw [if_neg e] at hi'
      exact ⟨s, hi', fun h => h, fun o _ h => h⟩
  refine hr u hF β w fr frs cs hf hfs ⟨⟨fun i s hi' hl => ?_, fun i j s t hi' hj' hl hl' => ?_, hs.read, hs.old, hs.os, hs.tape, hs.output, hs.size, hs.pin⟩, hs.fresh⟩ hcs
  · obtain ⟨s0, h1, h2, h3⟩ := old i s hi'
    obtain ⟨b, o, k1, k2, k3, k4, k5⟩ := hs.own i s0 h1 (h2 hl)
    refine ⟨b, o, k1, k2, k3, h3 o (fun e => ?_) k4, k5⟩
    subst e
    rw [x1] at k1; injection k1 with k1; subst k1
    rw [x3] at k3; injection k3 with k3; exact k3.symm
  · obtain ⟨s0, h1, h2, _⟩ := old i s hi'
    obtain ⟨t0, h1', h2', _⟩ := old j t hj'
    exact hs.apart i j s0 t0 h1 h1' (h2 hl) (h2' hl')
end
end Sx
end
section
namespace Sx
open Go
theorem sat_openPN {K : Kn} {B : Base} (hK : ∀ b o, K b = some o → B.D b = some o) {v : Value} {m sz : Nat} {g : Nat → Nat → SV} (hF : Froz K v m sz g) {i : Nat} (hi : i < m) {β : Env} {hp ro : Hp} {nx : Nat} {w : World} (hs : Sat β hp ro B nx w) {h : Nat → SV} (hh : ∀ k u, k < sz → Rel Env.nil (g i k) u → Rel β (h k) u) :
    ∃ off, ∃ β' : Env, β.le β' ∧ Rel β' (.sq nx off 0 sz m .no) v ∧ Sat β' hp ((nx, .prow off (fun e => e = i) sz (fun _ k => h k) anyTy) :: ro) B (nx + 1) w ∧ ∃ b c tt fz, β' nx = some b ∧ K b = some (.cells c tt fz) ∧ ∀ i k, i < m → k < sz → ∃ u, c[off + i * sz + k]? = some u ∧ Rel Env.nil (g i k) u := by
  obtain ⟨base, room, e1, e2, e3⟩ := hF
  have h0 : 0 < m := by omega
  obtain ⟨h4, b, o, c, tt, fz, h5, h6, h7⟩ := e3 h0
  have hfr := hs.fresh nx (Nat.le_refl _)
  have hle := Env.le_add (b := b) (r := 0) hfr
  have hne : ∀ i b', β i = some b' → i ≠ nx := by
    intro i b' h e; subst e; rw [hfr] at h; cases h
  refine ⟨o, β.add nx b 0, hle, ⟨base, room, e1, e2, fun h => (by cases h), fun h => (by cases h), fun _ => ⟨h4, b, Env.add_same _ _ _ _, by rw [h5]; simp, fun h => (by cases h)⟩⟩, ⟨⟨fun i s hi hl => ?_, fun i j s t hi hj hl ht hij => ?_, fun i s hi hl => ?_, hs.old, hs.os, hs.tape, hs.output, hs.size, Env.le_trans hs.pin hle⟩, fun i hi => ?_⟩, ⟨b, c, tt, fz, Env.add_same _ _ _ _, h6, h7⟩⟩
  · obtain ⟨b', o', h1, h2, h3, h4, h5⟩ := hs.own i s hi hl
    have hn := hne i b' h1
    exact ⟨b', o', (Env.add_other _ _ _ hn).trans h1, h2, h3, ORel.mono hle _ _ h4, by rw [Env.add_room_other _ _ _ hn]; exact h5⟩
  · obtain ⟨b1, o1, h1, _⟩ := hs.own i s hi hl
    obtain ⟨b2, o2, h2, _⟩ := hs.own j t hj ht
    rw [Env.add_other _ _ _ (hne i b1 h1), Env.add_other _ _ _ (hne j b2 h2)]
    exact hs.apart i j s t hi hj hl ht hij
  · simp only [hget] at hi
    cases hb : Nat.beq i nx with
    | true =>
      rw [hb] at hi; simp only [cond_true, Option.some.injEq] at hi; subst hi
      have := beq_nat hb; subst this
      refine ⟨b, _, Env.add_same _ _ _ _, hK _ _ h6, c, fz, tt, .inl rfl, rfl, fun e k he hk => ?_⟩
      have he : e = _ := he
      subst he
      obtain ⟨u, hu, hr⟩ := h7 _ k (by assumption) hk
      exact ⟨u, hu, Rel.mono hle _ _ (hh k u hk hr)⟩
    | false =>
      rw [hb] at hi
      obtain ⟨b', o', h1, h2, h3⟩ := hs.read i s hi hl
      exact ⟨b', o', (Env.add_other _ _ _ (hne i b' h1)).trans h1, h2, ORel.mono hle _ _ h3⟩
  · rw [Env.add_other _ _ _ (by show i ≠ nx; omega)]
    exact hs.fresh i (by omega)
section
variable {P : Program} {ro : Hp} {B : Base} {f : FuncId} {R : Ending → World → Prop}
/-- A slot is told anew. -/
theorem FrRel.reslot {β : Env} {fn : FId} {n : Nat} {sl : Slots} {td : List SI} {fr : Frame} (hf : FrRel β ⟨fn, n, sl, td⟩ fr) {t : Nat} {v s : SV} (ht : look t sl = some v) (hrel : Rel β s (fr.tmps.getD t undef)) : FrRel β ⟨fn, n, (t, s) :: sl, td⟩ fr := by
  refine { hf with slot := fun t' u hu => ?_, lt := fun t' u hu => ?_ }
  · simp only [look] at hu
    cases hb : Nat.beq t' t with
    | true =>
      rw [hb] at hu; simp only [cond_true, Option.some.injEq] at hu; subst hu
      have := beq_nat hb; subst this
      exact hrel
    | false => rw [hb] at hu; exact hf.slot t' u hu
  · simp only [look] at hu
    cases hb : Nat.beq t' t with
    | true => have := beq_nat hb; subst this; exact hf.lt t' _ ht
    | false => rw [hb] at hu; exact hf.lt t' u hu
theorem run_openSP {K : Kn} (hK : ∀ b o, K b = some o → B.D b = some o) (t : Nat) {v v2 : Value} {m n2 : Nat} {g f2 : Nat → Nat → SV} (hF : Froz K v m 1 g) {i : Nat} (hi : i < m) (hg : g i 0 = .val v2) (hF2 : Froz K v2 n2 1 f2) {fn : FId} {n : Nat} {sl : Slots} {td : List SI} {rest : List SFr} {hp : Hp} {nx : Nat}
    (ht : look t sl = some (.val v)) {np : Nat} (hpin : PinTo B np) (hnp : np ≤ nx)
    (hr : ∀ off off2 B', More B B' → B'.D = B.D → PinTo B' (nx + 2) → (∃ b c tt fz, B'.pin (nx + 1) = some b ∧ K b = some (.cells c tt fz) ∧ ∀ i k, i < m → k < 1 → ∃ u, c[off + i * 1 + k]? = some u ∧ Rel Env.nil (g i k) u) →
      Run P ((nx + 1, .prow off (fun e => e = i) 1 (fun _ _ => .sq nx off2 0 1 n2 .no) anyTy) :: (nx, .row off2 n2 n2 1 f2 anyTy) :: ro) B' f R ⟨⟨fn, n, (t, .sq (nx + 1) off 0 1 m .no) :: sl, td⟩, rest, hp, nx + 2⟩) : Run P ro B f R ⟨⟨fn, n, sl, td⟩, rest, hp, nx⟩ := by
  intro β w fr frs cs hf hfs hs hcs
  have hv : fr.tmps.getD t undef = v := (hf.slot t _ ht).1
  obtain ⟨off2, β1, hle1, hrel1, hs1⟩ := sat_open hK hF2 (by decide) hs
  obtain ⟨off, β2, hle2, hrel2, hs2, b, c, tt, fz, q1, q2, q3⟩ := sat_openPN hK hF hi hs1 (h := fun _ => .sq nx off2 0 1 n2 .no) (fun j u hj hu => by
    obtain rfl : j = 0 := by omega
    rw [hg] at hu
    have hu : u = v2 ∧ _ := hu
    rw [hu.1]; exact hrel1)
  have hle := Env.le_trans hle1 hle2
  have hpk : B.pin (nx + 1) = none := hpin.p (nx + 1) (by omega)
  have hpl : (B.pinA (nx + 1) b (β2.room (nx + 1))).pin.le β2 := ⟨fun i x hx => by
    by_cases h : i = nx + 1
    · subst h
      have hx : (B.pin.add (nx + 1) b (β2.room (nx + 1))) (nx + 1) = some x := hx
      rw [Env.add_same] at hx; injection hx with hx; subst hx; exact q1
    · have hx : (B.pin.add (nx + 1) b (β2.room (nx + 1))) i = some x := hx
      rw [Env.add_other _ _ _ h] at hx; exact hs2.pin _ _ hx, fun i x hx => by
    by_cases h : i = nx + 1
    · subst h
      show β2.room (nx + 1) = (B.pin.add (nx + 1) b (β2.room (nx + 1))).room (nx + 1)
      rw [Env.add_room]
    · have hx : (B.pin.add (nx + 1) b (β2.room (nx + 1))) i = some x := hx
      show β2.room i = (B.pin.add (nx + 1) b (β2.room (nx + 1))).room i
      rw [Env.add_room_other _ _ _ h]; rw [Env.add_other _ _ _ h] at hx; exact hs2.pin.r _ _ hx⟩
  exact hr off off2 (B.pinA (nx + 1) b (β2.room (nx + 1))) ⟨rfl, rfl, Env.le_add hpk, rfl⟩ rfl ((hpin.more (by omega)).pinA (by omega)) ⟨b, c, tt, fz, Env.add_same _ _ _ _, q2, q3⟩ β2 w fr frs cs ((hf.mono hle).reslot ht (by rw [hv]; exact hrel2)) (hfs.mono hle)
    ⟨⟨hs2.own, hs2.apart, hs2.read, hs2.old, hs2.os, hs2.tape, hs2.output, hs2.size, hpl⟩, hs2.fresh⟩ hcs
/-- A slice in a slot that was laid open is known again. -/
theorem run_shutS {K : Kn} {r off sz m : Nat} {ap : Ap} {g : Nat → Nat → SV} (hkn : 0 < m → ∃ b c tt fz, B.pin r = some b ∧ K b = some (.cells c tt fz) ∧ ∀ i k, i < m → k < sz → ∃ u, c[off + i * sz + k]? = some u ∧ Rel Env.nil (g i k) u) (t : Nat) {fn : FId} {n : Nat} {sl : Slots} {td : List SI} {rest : List SFr} {hp : Hp} {nx : Nat}
    (ht : look t sl = some (.sq r off 0 sz m ap)) (hr : ∀ v, Froz K v m sz g → Run P ro B f R ⟨⟨fn, n, (t, .val v) :: sl, td⟩, rest, hp, nx⟩) : Run P ro B f R ⟨⟨fn, n, sl, td⟩, rest, hp, nx⟩ := by
  intro β w fr frs cs hf hfs hs hcs
  obtain ⟨base, room, e1, e2, e3, e4, e5⟩ := hf.slot t _ ht
  have hF : Froz K (fr.tmps.getD t undef) m sz g := by
    refine ⟨base, room, e1, e2, fun h0 => ?_⟩
    obtain ⟨g1, b', g2, g3, _⟩ := e5 h0
    obtain ⟨b, c, tt, fz, hb, hKb, hc⟩ := hkn h0
    have := hs.pin _ _ hb
    rw [g2] at this; injection this with this; subst this
    refine ⟨g1, b', off + 0 * sz, c, tt, fz, g3, hKb, fun i k hi hk => ?_⟩
    obtain ⟨u', hu', hr'⟩ := hc i k hi hk
    exact ⟨u', by rw [← hu']; congr 1; omega, hr'⟩
  exact hr _ hF β w fr frs cs (hf.reslot ht ⟨rfl, by rw [e1]; rfl⟩) hfs hs hcs
end
end Sx
end
section
namespace Sx
open Go
/-- v is a slice of n elements, in a block of its own that was not known before. -/
def FrozN (K K' : Kn) (v : Value) (off n sz : Nat) (f : Nat → Nat → SV) (ty : TypeId) : Prop :=
  0 < n → ∃ b c room, v = .slice (some ⟨b, off, none⟩) n room ∧ n ≤ room ∧ K b = none ∧ K' b = some (.cells c ty (0, 0)) ∧ ∀ i k, i < n → k < sz → ∃ u, c[off + i * sz + k]? = some u ∧ Rel Env.nil (f i k) u
section
variable {P : Program} {ro : Hp} {B : Base} {f : FuncId} {R : Ending → World → Prop}
theorem sat_freezeN {K : Kn} (hB : B.ok) (hK : ∀ b o, K b = some o → B.D b = some o) {i off sz m m' cap : Nat} {ap : Ap} {g : Nat → Nat → SV} {ty : TypeId} {hp : Hp} {nx : Nat} {β : Env} {w : World} {u0 : Value}
    (hi : hget i hp = some (.row off m' cap sz g ty)) (hty : Nat.beq ty anyTy = false) (hm : m ≤ m') (hcl : ∀ i k, i < m → k < sz → (g i k).closed = true) (hs : Sat β hp ro B nx w) (hu0 : Rel β (.sq i off 0 sz m ap) u0) :
    ∃ (B' : Base) (K' : Kn), Froz K' u0 m sz g ∧ FrozN K K' u0 off m sz g ty ∧ Fz B K M0 B' K' ∧ B'.pin = B.pin ∧ B'.kd = B.kd ∧ Sat β (hdrop' [i] hp) ro B' nx w := by
  obtain ⟨base, room, e1, e2, e3, e4, e5⟩ := hu0
  have own' : ∀ j s, hget j (hdrop' [i] hp) = some s → hget j hp = some s ∧ j ≠ i := by
    intro j s hj
    rw [hdrop_get] at hj
    split at hj
    · cases hj
    · rename_i hn; exact ⟨hj, fun e => hn (by rw [e]; exact List.mem_singleton.2 rfl)⟩
  rcases Nat.eq_zero_or_pos m with h0 | h0
  · subst h0
    refine ⟨B, K, ⟨base, room, e1, e2, fun h => absurd h (Nat.lt_irrefl _)⟩, fun h => absurd h (Nat.lt_irrefl _), .refl hB hK, rfl, rfl, ⟨⟨fun j s hj hl => hs.own j s (own' j s hj).1 hl, fun j k s u hj hk => hs.apart j k s u (own' j s hj).1 (own' k u hk).1, hs.read, hs.old, hs.os, hs.tape, hs.output, hs.size, hs.pin⟩, hs.fresh⟩⟩
  · obtain ⟨b, o, h1, h2, h3, h4, h5⟩ := hs.own i _ hi (show 0 < m' by omega)
    obtain ⟨c, fz, tt, q1, q2, q3, q4, q5⟩ := h4
    obtain ⟨g1, b', g2, g3, _⟩ := e5 h0
    rw [h1] at g2; injection g2 with g2; subst g2
    have KB : ∀ x, (if x = b then some o else B.D x) = if x = b then some o else B.D x := fun _ => rfl
    let B' : Base := ⟨fun x => if x = b then some o else B.D x, w, B.pin, B.kd⟩
    let K' : Kn := fun x => if x = b then some o else K x
    have hBb : ∀ x o', B.D x = some o' → x ≠ b := by
      intro x o' hx e; subst e; rw [h2] at hx; cases hx
    have hF : Fz B K M0 B' K' := by
      refine ⟨fun x o' hx => ?_, rfl, Env.le_refl _, hs.os, hs.tape, hs.output, hs.size, fun x o' hx _ => ?_, fun x o' hx => ?_, fun x o' hx _ => ?_, fun x o' hx => ?_⟩
      · by_cases e : x = b
        · subst e; exact (Array.getElem?_eq_some_iff.1 h3).1
        · have hx : B.D x = some o' := by simpa [B', e] using hx
          exact Nat.lt_of_lt_of_le (hB x o' hx) hs.size
      · show (if x = b then some o else B.D x) = some o'
        rw [if_neg (hBb x o' hx)]; exact hx
      · show (if x = b then some o else B.D x) = some o'
        by_cases e : x = b
        · simpa [K', e] using hx
        · rw [if_neg e]; exact hK x o' (by simpa [K', e] using hx)
      · show (if x = b then some o else K x) = some o'
        rw [if_neg (hBb x o' (hK x o' hx))]; exact hx
      · by_cases e : x = b
        · subst e; exact .inr h2
        · left; have : K x = some o' := by simpa [K', e] using hx
          rw [this]; simp
    refine ⟨B', K', ⟨base, room, e1, e2, fun _ => ⟨g1, b, off, c, tt, fz, by rw [g3]; simp, by show (if b = b then some o else K b) = _; rw [if_pos rfl, q2], fun i k hi hk => ?_⟩⟩, fun _ => ⟨b, c, room, by rw [e1, g3]; simp, g1, ?_, ?_, fun i k hi hk => ?_⟩, hF, rfl, rfl, ?_⟩
    · obtain ⟨u, hu, hr⟩ := q5 i k (by omega) hk
      exact ⟨u, hu, Rel.closed _ _ (hcl i k hi hk) hr⟩
    · cases hk : K b with
      | none => rfl
      | some o' => rw [hK b o' hk] at h2; cases h2
    · subst q2
      have hfz : fz = (0, 0) := h5.l
      subst hfz
      have htt : ty = tt := by
        rcases q1 with q | q
        · rw [hty] at q; cases q
        · exact q
      subst htt
      show (if b = b then some _ else K b) = _
      rw [if_pos rfl]
    · obtain ⟨u, hu, hr⟩ := q5 i k (by omega) hk
      exact ⟨u, hu, Rel.closed _ _ (hcl i k hi hk) hr⟩
    · refine ⟨⟨fun j s hj hl => ?_, fun j k s u hj hk => hs.apart j k s u (own' j s hj).1 (own' k u hk).1, fun j s hj hl => ?_, fun x o' hx => ?_, rfl, rfl, rfl, Nat.le_refl _, hs.pin⟩, hs.fresh⟩
      · obtain ⟨hj, hne⟩ := own' j s hj
        obtain ⟨bj, oj, j1, j2, j3, j4, j5⟩ := hs.own j s hj hl
        refine ⟨bj, oj, j1, ?_, j3, j4, j5⟩
        show (if bj = b then some o else B.D bj) = none
        rw [if_neg, j2]
        intro e
        exact hs.apart j i s _ hj hi hl (show 0 < m' by omega) hne (by rw [j1, h1, e])
      · obtain ⟨bj, oj, j1, j2, j3⟩ := hs.read j s hj hl
        refine ⟨bj, oj, j1, ?_, j3⟩
        show (if bj = b then some o else B.D bj) = some oj
        rw [if_neg (hBb bj oj j2)]; exact j2
      · have hx : (if x = b then some o else B.D x) = some o' := hx
        by_cases e : x = b
        · subst e; simp at hx; subst hx; exact h3
        · rw [if_neg e] at hx; exact hs.old x o' hx
theorem run_freezeCN {K : Kn} (hB : B.ok) (hK : ∀ b o, K b = some o → B.D b = some o) (X j k : Nat) {L off sz m m' cap : Nat} {ap : Ap} {g : Nat → Nat → SV} {ty : TypeId} {offX nX capX szX : Nat} {F : Nat → Nat → SV} {tyX : TypeId} {fn : FId} {n : Nat} {sl : Slots} {td : List SI} {rest : List SFr} {hp hp1 : Hp} {hp2 : (Nat → Nat → SV) → Hp} {nx : Nat}
    (hX : hget X hp = some (.row offX nX capX szX F tyX)) (hF : F j k = .sq L off 0 sz m ap) (hj : j < nX) (hk : k < szX) (hi : hget L hp = some (.row off m' cap sz g ty)) (hne : Nat.beq X L = false) (hty : Nat.beq ty anyTy = false) (hm : m ≤ m') (hcl : ∀ i k, i < m → k < sz → (g i k).closed = true) (hd : hdrop [L] hp some = some hp1)
    (hset2 : ∀ F', hset X (.row offX nX capX szX F' tyX) hp1 = some (hp2 F'))
    (hr : ∀ v B' K', Froz K' v m sz g → FrozN K K' v off m sz g ty → Fz B K M0 B' K' → B'.pin = B.pin → ∀ F', (∀ a b, a < nX → b < szX → F' a b = if a = j ∧ b = k then .val v else F a b) → Run P ro B' f R ⟨⟨fn, n, sl, td⟩, rest, hp2 F', nx⟩) : Run P ro B f R ⟨⟨fn, n, sl, td⟩, rest, hp, nx⟩ := by
  intro β w fr frs cs hf hfs hs hcs
  rw [hdrop_eq] at hd
  injection hd with hd; subst hd
  have hXL : X ≠ L := fun e => by subst e; simp at hne
  obtain ⟨bX, oX, x1, x2, x3, x4, x5⟩ := hs.own X _ hX (show 0 < nX by omega)
  obtain ⟨c, fz, tt, y1, y2, y3, y4, y5⟩ := x4
  obtain ⟨u, hu, hru⟩ := y5 j k hj hk
  rw [hF] at hru
  obtain ⟨B', K', g1, gN, g2, g3, g4, g5⟩ := sat_freezeN hB hK hi hty hm hcl hs hru
  have hone : u.oneCell' = true := by obtain ⟨base, room, e1, _⟩ := hru; rw [e1]; rfl
  let F' : Nat → Nat → SV := fun a b => if a = j ∧ b = k then .val u else F a b
  have hX' : hget X (hdrop' [L] hp) = some (.row offX nX capX szX F tyX) := by
    rw [hdrop_get, if_neg (by simpa using hXL)]; exact hX
  have old : ∀ i s, hget i (hp2 F') = some s → ∃ s0, hget i (hdrop' [L] hp) = some s0 ∧ (s.Live → s0.Live) ∧ ∀ o, (i = X → o = oX) → ORel β s0 o → ORel β s o := by
    intro i s hi'
    rw [hset_get (hset2 F') i] at hi'
    by_cases e : i = X
    · subst e
      rw [if_pos rfl, hX'] at hi'
      simp only [Option.map_some, Option.some.injEq] at hi'
      subst hi'
      refine ⟨_, hX', fun h => h, fun o ho _ => ?_⟩
      rw [ho rfl]
      refine ⟨c, fz, tt, y1, y2, y3, y4, fun a b ha hb => ?_⟩
      obtain ⟨u', hu', hr'⟩ := y5 a b ha hb
      by_cases e2 : a = j ∧ b = k
      · obtain ⟨rfl, rfl⟩ := e2
        refine ⟨u, hu, ?_⟩
        show Rel β (if a = a ∧ b = b then SV.val u else F a b) u
        rw [if_pos ⟨rfl, rfl⟩]
        exact ⟨rfl, hone⟩
      · refine ⟨u', hu', ?_⟩
        show Rel β (if a = j ∧ b = k then SV.val u else F a b) u'
        rw [if_neg e2]; exact hr'
    · rw [if_neg e] at hi'
      exact ⟨s, hi', fun h => h, fun o _ h => h⟩
  have hfin := hr u B' K' g1 gN g2 g3 F' (fun a b _ _ => rfl) β w fr frs cs hf hfs ?_ (by rw [g4]; exact hcs)
  · rw [g4] at hfin; exact hfin
  refine ⟨⟨fun i s hi' hl => ?_, fun i j s t hi' hj' hl hl' => ?_, g5.read, g5.old, g5.os, g5.tape, g5.output, g5.size, g5.pin⟩, g5.fresh⟩
  · obtain ⟨s0, h1, h2, h3⟩ := old i s hi'
    obtain ⟨b, o, k1, k2, k3, k4, k5⟩ := g5.own i s0 h1 (h2 hl)
    refine ⟨b, o, k1, k2, k3, h3 o (fun e => ?_) k4, k5⟩
    subst e
    rw [x1] at k1; injection k1 with k1; subst k1
    rw [x3] at k3; injection k3 with k3; exact k3.symm
  · obtain ⟨s0, h1, h2, _⟩ := old i s hi'
    obtain ⟨t0, h1', h2', _⟩ := old j t hj'
    exact g5.apart i j s0 t0 h1 h1' (h2 hl) (h2' hl')
theorem run_freezeBN {K : Kn} (hB : B.ok) (hK : ∀ b o, K b = some o → B.D b = some o) (X k : Nat) {L off sz m m' cap : Nat} {ap : Ap} {g : Nat → Nat → SV} {ty : TypeId} {us : List SV} {tyX : TypeId} {fn : FId} {n : Nat} {sl : Slots} {td : List SI} {rest : List SFr} {hp hp1 : Hp} {hp2 : Value → Hp} {nx : Nat}
    (hX : hget X hp = some (.cells us tyX)) (hF : us[k]? = some (.sq L off 0 sz m ap)) (hi : hget L hp = some (.row off m' cap sz g ty)) (hne : Nat.beq X L = false) (hty : Nat.beq ty anyTy = false) (hm : m ≤ m') (hcl : ∀ i k, i < m → k < sz → (g i k).closed = true) (hd : hdrop [L] hp some = some hp1)
    {us' : Value → List SV} (hus : ∀ v, us' v = us.set k (.val v)) (hset2 : ∀ v, hset X (.cells (us' v) tyX) hp1 = some (hp2 v))
    (hr : ∀ v B' K', Froz K' v m sz g → FrozN K K' v off m sz g ty → Fz B K M0 B' K' → B'.pin = B.pin → Run P ro B' f R ⟨⟨fn, n, sl, td⟩, rest, hp2 v, nx⟩) : Run P ro B f R ⟨⟨fn, n, sl, td⟩, rest, hp, nx⟩ := by
  intro β w fr frs cs hf hfs hs hcs
  rw [hdrop_eq] at hd
  injection hd with hd; subst hd
  have hXL : X ≠ L := fun e => by subst e; simp at hne
  obtain ⟨bX, oX, x1, x2, x3, x4, x5⟩ := hs.own X _ hX trivial
  obtain ⟨ws, y1, y2⟩ := x4
  obtain ⟨u, hu, hru⟩ := y2.get hF
  obtain ⟨B', K', g1, gN, g2, g3, g4, g5⟩ := sat_freezeN hB hK hi hty hm hcl hs hru
  have hone : u.oneCell' = true := by obtain ⟨base, room, e1, _⟩ := hru; rw [e1]; rfl
  have hX' : hget X (hdrop' [L] hp) = some (.cells us tyX) := by
    rw [hdrop_get, if_neg (by simpa using hXL)]; exact hX
  have old : ∀ i s, hget i (hp2 u) = some s → ∃ s0, hget i (hdrop' [L] hp) = some s0 ∧ (s.Live → s0.Live) ∧ ∀ o, (i = X → o = oX) → ORel β s0 o → ORel β s o := by
    intro i s hi'
    rw [hset_get (hset2 u) i] at hi'
    by_cases e : i = X
    · subst e
      rw [if_pos rfl, hX'] at hi'
      simp only [Option.map_some, Option.some.injEq] at hi'
      subst hi'
      refine ⟨_, hX', fun h => h, fun o ho _ => ?_⟩
      rw [ho rfl, hus u]
      refine ⟨ws, y1, RelL.mk (by rw [List.length_set]; exact y2.length) fun a s' v' h1 h2 => ?_⟩
      rw [List.getElem?_set] at h1
      by_cases e2 : k = a
      · subst e2
        have hk : k < us.length := (List.getElem?_eq_some_iff.1 hF).1
        rw [if_pos rfl, if_pos hk] at h1
        injection h1 with h1; subst h1
        rw [hu] at h2; injection h2 with h2; subst h2
        exact ⟨rfl, hone⟩
      · rw [if_neg e2] at h1
        obtain ⟨v2, q1, q2⟩ := y2.get h1
        rw [q1] at h2; injection h2 with h2; subst h2
        exact q2
    · rw [if_neg e] at hi'
      exact ⟨s, hi', fun h => h, fun o _ h => h⟩
  have hfin := hr u B' K' g1 gN g2 g3 β w fr frs cs hf hfs ?_ (by rw [g4]; exact hcs)
  · rw [g4] at hfin; exact hfin
  refine ⟨⟨fun i s hi' hl => ?_, fun i j s t hi' hj' hl hl' => ?_, g5.read, g5.old, g5.os, g5.tape, g5.output, g5.size, g5.pin⟩, g5.fresh⟩
  · obtain ⟨s0, h1, h2, h3⟩ := old i s hi'
    obtain ⟨b, o, k1, k2, k3, k4, k5⟩ := g5.own i s0 h1 (h2 hl)
    refine ⟨b, o, k1, k2, k3, h3 o (fun e => ?_) k4, k5⟩
    subst e
    rw [x1] at k1; injection k1 with k1; subst k1
    rw [x3] at k3; injection k3 with k3; exact k3.symm
  · obtain ⟨s0, h1, h2, _⟩ := old i s hi'
    obtain ⟨t0, h1', h2', _⟩ := old j t hj'
    exact g5.apart i j s0 t0 h1 h1' (h2 hl) (h2' hl')
end
end Sx
end
section
namespace Sx
open Go
theorem hcxq_shut {ι : Type} {P : Program} {K : Kn} {f : FuncId} {b : Nat} {c : Array Value} {tt : TypeId} {fz : Nat × Nat} {off m sz : Nat} {g : Nat → Nat → SV} {ty : TypeId} {a0 a1 a3 : SV} {xs : List SV} {ψ : ι → Kn → Prop} {r : ι → SV} (hKb : K b = some (.cells c tt fz)) (hc : ∀ i k, i < m → k < sz → ∃ u, c[off + i * sz + k]? = some u ∧ Rel Env.nil (g i k) u)
    (h0 : a0.closed = true) (h1 : a1.closed = true) (h3 : a3.closed = true) (hxs : closedL xs = true) (hr : ∀ z, (r z).closed = true) (h : ∀ v, Froz K v m sz g → HCX P K M0 f (.agg [a0, a1, .val v, a3] :: xs) [] [] 0 ψ (fun z => ⟨r z, [], 0⟩)) :
    HCXq P K (fun β => β 0 = some b) f (.agg [a0, a1, .sq 0 off 0 sz m .no, a3] :: xs) [] [(0, .row off m m sz g ty)] 1 ψ (fun z => ⟨r z, [], 1⟩) := by
  intro B β w vs hQ hB hK hl hs
  obtain ⟨u, us, rfl, hu, hr'⟩ := hl
  obtain ⟨as, rfl, v0, as0, rfl, k0, v1, as1, rfl, k1, v2, as2, rfl, k2, v3, as3, rfl, k3, k4⟩ := hu
  have k4 : as3 = [] := k4
  subst k4
  have hF : Froz K v2 m sz g := by
    obtain ⟨base, room, e1, e2, _, _, e5⟩ := k2
    refine ⟨base, room, e1, e2, fun hm => ?_⟩
    obtain ⟨g1, b', g2, g3, _⟩ := e5 hm
    rw [hQ] at g2; injection g2 with g2; subst g2
    exact ⟨g1, b, off + 0 * sz, c, tt, fz, g3, hKb, by simpa using hc⟩
  have hone : v2.oneCell' = true := by obtain ⟨base, room, e1, _⟩ := k2; rw [e1]; rfl
  refine (h v2 hF ⟨B.D, B.w, Env.nil, B.kd⟩ Env.nil w (.agg [v0, v1, v2, v3].toArray :: us) hB hK
    ⟨_, _, rfl, ⟨_, rfl, v0, _, rfl, Rel.closed _ _ h0 k0, v1, _, rfl, Rel.closed _ _ h1 k1, v2, _, rfl, ⟨rfl, hone⟩, v3, _, rfl, Rel.closed _ _ h3 k3, rfl⟩, RelL.closed _ _ hxs hr'⟩
    ⟨⟨fun _ _ hi => (none_ne hi).elim, fun _ _ _ _ hi => (none_ne hi).elim, fun _ _ hi => (none_ne hi).elim, hs.old, hs.os, hs.tape, hs.output, hs.size, Env.le_refl _⟩, fun _ _ => rfl⟩).mono ?_
  rintro e w' ⟨z, β', u, B', K', q1, q2, rfl, q4, q5, q6⟩
  refine ⟨z, β, u, ⟨B'.D, B'.w, B.pin, B.kd⟩, K', q1, Env.le_refl _, rfl, Rel.closed _ _ (hr z) q4, ⟨q5.ok, rfl, Env.le_refl _, q5.os, q5.tape, q5.output, q5.size, q5.keep, q5.le, q5.old, q5.new⟩,
    ⟨⟨fun _ _ hi => (none_ne hi).elim, fun _ _ _ _ hi => (none_ne hi).elim, fun i s hi hv => ?_, q6.old, q6.os, q6.tape, q6.output, q6.size, hs.pin⟩, hs.fresh⟩⟩
  obtain ⟨bb, o, p1, p2, p3⟩ := hs.read i s hi hv
  exact ⟨bb, o, p1, q5.keep bb o p2 (fun h => h), p3⟩
end Sx
end
