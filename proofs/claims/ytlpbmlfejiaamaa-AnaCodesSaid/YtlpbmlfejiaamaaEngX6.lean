/- The symbolic machine, part 6: what its steps give, proved against the model. Conditions: as each theorem says. -/
import Derived.Test.YtlpbmlfejiaamaaEngX5
set_option linter.unusedSimpArgs false
set_option linter.unusedVariables false
section
namespace Sx
open Go
/-- A call with another outcome. -/
abbrev RC.outs (c : RC) (o : Out) : RC := ⟨c.g, c.xs, c.hpc, c.roc, c.nxc, o.r, o.hp, o.nx, c.sg⟩
theorem dopR_tb {pn : Nat → Prop} {P : Program} {M : Mode} {ro : Hp} {ops : Array Oper} {tb tb' : RT} {b K N idn : Nat} (h : rtGet idn tb = rtGet idn tb') (o : Oper) (sl : Slots) (hp : Hp) : dopR pn P M ro ops tb b K N idn o sl hp = dopR pn P M ro ops tb' b K N idn o sl hp := by unfold dopR; rw [h]
section
variable {P : Program} {M : Mode} {ro : Hp} {ops : Array Oper} {T : List (List Nat)} {n nx K m b : Nat} {Sl : Nat → Slots} {Hs : Nat → Hp} {dr : Nat → DR} {B : Base}
theorem call_didX {ι : Type} {ψ : ι → Kn → Prop} {K0 : Kn} (hkn : ∀ bb o, K0 bb = some o → B.D bb = some o) {c : RC} {out : ι → Out} (z0 : ι) (hHC : HCX P K0 M0 c.g c.xs c.hpc c.roc c.nxc ψ out) (hl : c.sg.length = c.nxc) (hno : ∀ z, c.nxc ≤ (out z).nx) {β : Env} {hpj hpv : Hp} {w : World} {d : ι → DR} {cs1 : List Prop} {idn N : Nat} {as : List SV} {vs : List Value} {g : Nat} (hb0 : 0 < b)
    (hview : ∀ t s, hget t hpv = some s → hget t hpj = some s) (hfresh : ∀ k, β (idn + k * b) = none) (hsat : Sat β hpv ro B N w)
    (hchk : ∀ z, rcChk (c.outs (out z)) b K N g = true) (hcs : rcConds (Pinned B) c N ro hpv as = some cs1) (hall : All cs1) (hvs : RelL β as vs) (hwh : ∀ z, (d z).wh = renH' N ((c.outs (out z)).names b idn) [] (out z).hp) (hdl : ∀ z, (d z).dl = (hkeys c.hpc).map (sig N c.sg)) (hrh : ∀ z, (d z).rh = c.sg) :
    Calls P c.g vs.toArray w fun e w' => ∃ (z : ι) (β' : Env) (u : Value) (B' : Base) (K' : Kn), e = .returned u ∧ ψ z K' ∧ Did hpj β (d z) (fun i => ∃ k, k < K ∧ i = idn + k * b) w β' w' ∧ Rel β' (ren N ((c.outs (out z)).names b idn) (out z).r) u ∧
      Fz B K0 M0 B' K' ∧ B'.pin = B.pin ∧ B'.w = w' ∧ (∀ i so bl, hget i (d z).wh = some so → so.Live → β' i = some bl → B'.D bl = none) ∧ (∀ bl o, B'.D bl = some o → w'.heap[bl]? = some o) ∧
      (∀ bl o, B.D bl = none → w.heap[bl]? = some o → (∀ t s, t ∈ (d z).mod → hget t hpj = some s → s.Live → β t = some bl → False) → B'.D bl = none) := by
  have hchk0 := hchk z0
  unfold rcChk at hchk0
  simp only [Bool.and_eq_true] at hchk0
  obtain ⟨⟨⟨⟨⟨⟨_, k2⟩, k3⟩, k4⟩, _⟩, k6⟩, _⟩ := hchk0
  have k2 : allLt N c.sg = true := k2
  have k3 : cover (hkeys c.hpc ++ hkeys c.roc) c.sg.length = true := k3
  have k4 : dist N c.sg (hkeys c.hpc ++ hkeys c.roc) = true := k4
  have k6 : ∀ i ∈ hkeys c.hpc, i < c.nxc := allLt_spec k6
  unfold rcConds at hcs
  split at hcs <;> first | exact (none_ne hcs).elim | skip
  rename_i d1 d2 d3 e1 e2 e3
  rw [renFL_eq] at e1
  injection hcs with hcs; subst hcs
  have a1 : All d1 := hall.left
  have a2 : All d2 := hall.right.left
  have a3 : All d3 := hall.right.right.left
  have a4 : All (liveC (Pinned B) N c.sg c.hpc) := hall.right.right.right.left
  have a5 : All (liveC (Pinned B) N c.sg c.roc) := hall.right.right.right.right
  obtain ⟨D, hD1, hD2, hBok, hs1, hinj⟩ := hsat.lend k2 k3 e2 e3 k4 a2 a3
  rw [hl] at hs1
  have hargs : RelL (β.via N c.sg) c.xs vs := (renL_rel _ _).1 (eqL_less _ _ _ e1 a1 β vs hvs)
  -- the names handed in are bound
  have bound : ∀ i, i < c.nxc → ∃ bl, β (sig N c.sg i) = some bl := by
    intro i hi
    have hm := cover_spec k3 i (by omega)
    rcases List.mem_append.1 hm with hm | hm
    · obtain ⟨s, hs⟩ := hkeys_get hm
      rcases liveC_spec a4 hs with hl | ⟨bl, hb⟩
      · obtain ⟨s0, cs, g1, g2, g3⟩ := hpM_spec e2 a2 hs hl
        obtain ⟨bl, o, q1, _⟩ := hsat.own _ _ g1 (eqO_live g2 g3 hl)
        exact ⟨bl, q1⟩
      · exact ⟨bl, hsat.pin _ _ hb⟩
    · obtain ⟨s, hs⟩ := hkeys_get hm
      rcases liveC_spec a5 hs with hl | ⟨bl, hb⟩
      · obtain ⟨s0, cs, g1, g2, g3⟩ := orM_spec e3 a3 hs hl
        rcases g1 with g1 | g1
        · obtain ⟨bl, o, q1, _⟩ := hsat.own _ _ g1 (eqO_live g2 g3 hl)
          exact ⟨bl, q1⟩
        · obtain ⟨bl, o, q1, _⟩ := hsat.read _ _ g1 (eqO_live g2 g3 hl)
          exact ⟨bl, q1⟩
      · exact ⟨bl, hsat.pin _ _ hb⟩
  have hDk : ∀ bb o, K0 bb = some o → D bb = some o := fun bb o e => by
    have e1 := hkn bb o e
    rw [hD2 bb (by
      rintro ⟨i, so, s, f1, f2, f3, f4⟩
      obtain ⟨b', o', g1, g2, _⟩ := hsat.own _ _ f2 f3
      rw [f4] at g1; injection g1 with g1; subst g1
      rw [e1] at g2; cases g2)]
    exact hsat.old bb o e1
  refine (hHC ⟨D, w, Env.nil, Kind.norm⟩ _ w vs hBok hDk hargs hs1).mono ?_
  rintro e w' ⟨z, β2, u, B1, K', hψ, hle2, rfl, hu, hF, hs2⟩
  have hno := hno z
  have hwh := hwh z
  have hdl := hdl z
  have hrh := hrh z
  have hchk1 := hchk z
  generalize hdz : d z = dz at hwh hdl hrh
  generalize hcz : c.outs (out z) = cz at hchk1 hwh
  have c_g : cz.g = c.g := by rw [← hcz]
  have c_sg : cz.sg = c.sg := by rw [← hcz]
  have c_nxc : cz.nxc = c.nxc := by rw [← hcz]
  have c_r : cz.r = (out z).r := by rw [← hcz]
  have c_hpo : cz.hpo = (out z).hp := by rw [← hcz]
  have c_nxo : cz.nxo = (out z).nx := by rw [← hcz]
  have c_hpc : cz.hpc = c.hpc := by rw [← hcz]
  rw [← c_hpo] at hs2 hwh
  rw [← c_nxo] at hs2 hno
  rw [← c_r] at hu
  unfold rcChk at hchk1
  simp only [Bool.and_eq_true] at hchk1
  obtain ⟨⟨⟨_, k5⟩, _⟩, k7⟩ := hchk1
  have k7 := ble_nat k7
  have k5 := allLt_spec k5
  rw [c_nxc] at k7
  have hlz : cz.sg.length = cz.nxc := by rw [c_sg, c_nxc]; exact hl
  have nlt : ∀ {i : Nat}, i < c.nxc → sig N (cz.names b idn) i = sig N c.sg i := fun hi => by rw [names_lt hlz (by rw [c_nxc]; exact hi), c_sg]
  have nge : ∀ {i : Nat}, c.nxc ≤ i → i < cz.nxo → sig N (cz.names b idn) i = idn + (i - c.nxc) * b := fun h1 h2 => by rw [names_ge hlz (by rw [c_nxc]; exact h1) h2, c_nxc]
  let isf : Nat → Prop := fun j => ∃ k, k < cz.nxo - c.nxc ∧ j = idn + k * b
  have hE : ∀ j, ∃ x : Option Nat × Nat, (∀ k, k < cz.nxo - c.nxc → j = idn + k * b → x = (β2 (c.nxc + k), β2.room (c.nxc + k))) ∧ (¬ isf j → x = (β j, β.room j)) := by
    intro j
    by_cases h : isf j
    · obtain ⟨k, h1, h2⟩ := h
      refine ⟨(β2 (c.nxc + k), β2.room (c.nxc + k)), fun k' h3 h4 => ?_, fun g => absurd ⟨k, h1, h2⟩ g⟩
      have : k = k' := Nat.eq_of_mul_eq_mul_right hb0 (by omega)
      rw [this]
    · exact ⟨(β j, β.room j), fun k h1 h2 => absurd ⟨k, h1, h2⟩ h, fun _ => rfl⟩
  obtain ⟨x, hx⟩ : ∃ x : Nat → Option Nat × Nat, ∀ j, (∀ k, k < cz.nxo - c.nxc → j = idn + k * b → x j = (β2 (c.nxc + k), β2.room (c.nxc + k))) ∧ (¬ isf j → x j = (β j, β.room j)) := ⟨fun j => Classical.choose (hE j), fun j => Classical.choose_spec (hE j)⟩
  obtain ⟨β', hβ⟩ : ∃ β' : Env, β' = ⟨fun j => (x j).1, fun j => (x j).2⟩ := ⟨_, rfl⟩
  have new1 : ∀ k, k < cz.nxo - c.nxc → β' (idn + k * b) = β2 (c.nxc + k) ∧ β'.room (idn + k * b) = β2.room (c.nxc + k) := fun k hk => by
    rw [hβ]; exact ⟨by show (x _).1 = _; rw [(hx _).1 k hk rfl], by show (x _).2 = _; rw [(hx _).1 k hk rfl]⟩
  have old1 : ∀ j, ¬ isf j → β' j = β j ∧ β'.room j = β.room j := fun j hj => by
    rw [hβ]; exact ⟨by show (x _).1 = _; rw [(hx _).2 hj], by show (x _).2 = _; rw [(hx _).2 hj]⟩
  have notf : ∀ j bl, β j = some bl → ¬ isf j := by
    rintro j bl hj ⟨k, _, rfl⟩
    rw [hfresh k] at hj; cases hj
  have hle : β.le β' := ⟨fun j bl h => by rw [(old1 j (notf j bl h)).1]; exact h, fun j bl h => (old1 j (notf j bl h)).2⟩
  have hvia : β2.le (β'.via N (cz.names b idn)) := by
    have key : ∀ i bl, β2 i = some bl → β' (sig N (cz.names b idn) i) = some bl ∧ β'.room (sig N (cz.names b idn) i) = β2.room i := by
      intro i bl hi
      have hi2 : i < cz.nxo := by
        rcases Nat.lt_or_ge i cz.nxo with g | g
        · exact g
        · rw [hs2.fresh i g] at hi; cases hi
      rcases Nat.lt_or_ge i c.nxc with g | g
      · rw [nlt g]
        obtain ⟨bl0, h0⟩ := bound i g
        have h1 := hle2 i bl0 h0
        rw [hi] at h1; injection h1 with h1; subst h1
        have h2 := old1 _ (notf _ _ h0)
        exact ⟨h2.1.trans h0, h2.2.trans (hle2.r i _ h0).symm⟩
      · rw [nge g hi2]
        have := new1 (i - c.nxc) (by omega)
        rw [show c.nxc + (i - c.nxc) = i by omega] at this
        exact ⟨this.1.trans hi, this.2⟩
    exact ⟨fun i bl h => (key i bl h).1, fun i bl h => (key i bl h).2⟩
  -- two names of the callee's at the caller's
  have inj2 : ∀ a a', a < cz.nxo → a' < cz.nxo → sig N (cz.names b idn) a = sig N (cz.names b idn) a' → a = a' := by
    intro a a' ha ha' he
    have mixed : ∀ a a', a < c.nxc → c.nxc ≤ a' → a' < cz.nxo → sig N (cz.names b idn) a = sig N (cz.names b idn) a' → False := by
      intro a a' h1 h2 h3 he
      rw [nlt h1, nge h2 h3] at he
      obtain ⟨bl, h0⟩ := bound a h1
      rw [he, hfresh] at h0; cases h0
    rcases Nat.lt_or_ge a c.nxc with g | g <;> rcases Nat.lt_or_ge a' c.nxc with g' | g'
    · rw [nlt g, nlt g'] at he; exact hinj _ _ he
    · exact (mixed a a' g g' ha' he).elim
    · exact (mixed a' a g' g ha he.symm).elim
    · rw [nge g ha, nge g' ha'] at he
      have : a - c.nxc = a' - c.nxc := Nat.eq_of_mul_eq_mul_right hb0 (by omega)
      omega
  have back : ∀ i so, hget i dz.wh = some so → ∃ a s0, i = sig N (cz.names b idn) a ∧ a < cz.nxo ∧ hget a cz.hpo = some s0 ∧ so = renO N (cz.names b idn) s0 id := by
    intro i so hi
    rw [hwh] at hi
    rcases renH_get hi with ⟨a, s0, q1, q2, q3, q4, q5⟩ | h
    · exact ⟨a, s0, q1, k5 a q2, q5 (fun x y hx hy he => inj2 x y (k5 x hx) (k5 y hy) he), q4⟩
    · cases h
  have footm : ∀ bl, Foot β hpv c.hpc N c.sg bl → ∃ t s, t ∈ dz.mod ∧ hget t hpj = some s ∧ s.Live ∧ β t = some bl := by
    rintro bl ⟨i, so, s, h1, h2, h3, h4⟩
    refine ⟨sig N c.sg i, s, ?_, hview _ _ h2, h3, h4⟩
    unfold DR.mod
    rw [wkeys_mem, hdl]
    exact .inr (List.mem_map_of_mem (hkeys_mem h1))
  have p2D : ∀ bl, B1.D bl = none → D bl = none := fun bl p => by
    cases hb : D bl with
    | none => rfl
    | some o => rw [hF.keep bl o hb (fun h => h)] at p; cases p
  have BD : ∀ b' o, B.D b' = some o → D b' = some o := fun b' o hb => by
    have hnf : ¬ Foot β hpv c.hpc N c.sg b' := by
      rintro ⟨i, so, s, f1, f2, f3, f4⟩
      obtain ⟨b1, o1, g1, g2, _⟩ := hsat.own _ _ f2 f3
      rw [f4] at g1; injection g1 with g1; subst g1
      rw [hb] at g2; cases g2
    rw [hD2 b' hnf]; exact hsat.old b' o hb
  let B' : Base := ⟨fun b' => match B.D b' with | some o => some o | none => K' b', w', B.pin, B.kd⟩
  have hB'1 : ∀ b' o, B.D b' = some o → B'.D b' = some o := fun b' o h => by show (match B.D b' with | some o => some o | none => K' b') = _; rw [h]
  have hB'2 : ∀ b', B.D b' = none → B'.D b' = K' b' := fun b' h => by show (match B.D b' with | some o => some o | none => K' b') = _; rw [h]
  have hB'3 : ∀ b' o, B'.D b' = some o → B1.D b' = some o := fun b' o h => by
    cases hb : B.D b' with
    | some o1 =>
      rw [hB'1 b' o1 hb] at h; injection h with h; subst h
      exact hF.keep b' _ (BD b' _ hb) (fun h => h)
    | none => rw [hB'2 b' hb] at h; exact hF.le b' o h
  have hK'D : ∀ b' o, K' b' = some o → B'.D b' = some o := fun b' o h => by
    cases hb : B.D b' with
    | none => rw [hB'2 b' hb]; exact h
    | some o1 =>
      have h1 := hF.keep b' o1 (BD b' o1 hb) (fun h => h)
      rw [hF.le b' o h] at h1
      rw [hB'1 b' o1 hb, h1]
  have hFB : Fz B K0 M0 B' K' := by
    refine ⟨fun b' o h => ?_, rfl, Env.le_refl _, hs2.os.trans (hF.os.trans hsat.os), hs2.tape.trans (hF.tape.trans hsat.tape), hs2.output.trans (hF.output.trans hsat.output), Nat.le_trans hsat.size (Nat.le_trans hF.size hs2.size), fun b' o h _ => hB'1 b' o h, hK'D, fun b' o h _ => hF.old b' o h (fun h => h), fun b' o h => ?_⟩
    · exact (Array.getElem?_eq_some_iff.1 (hs2.old b' o (hB'3 b' o h))).1
    · rcases hF.new b' o h with h1 | h1
      · exact .inl h1
      · right
        cases hb : B.D b' with
        | none => rfl
        | some o1 =>
          have h1 : D b' = none := h1
          rw [BD b' o1 hb] at h1; cases h1
  have hK0 : ∀ b', B.D b' = none → K0 b' = none := fun b' h => by
    cases hk : K0 b' with
    | none => rfl
    | some o => rw [hkn b' o hk] at h; cases h
  have hdid : Did hpj β dz (fun i => ∃ k, k < K ∧ i = idn + k * b) w β' w' := by
    refine ⟨hle, ?_, ?_, ?_, ?_, ?_, hs2.os.trans hF.os, hs2.tape.trans hF.tape, hs2.output.trans hF.output, Nat.le_trans hF.size hs2.size⟩
    · intro i bl hi
      by_cases h : isf i
      · obtain ⟨k, h1, h2⟩ := h
        exact .inr ⟨k, by omega, h2⟩
      · exact .inl ((old1 i h).1.symm.trans hi)
    · intro i hi
      unfold DR.mod at hi
      rw [wkeys_mem, hdl] at hi
      rw [hrh]
      have insg : ∀ a, a < c.nxc → sig N c.sg a ∈ c.sg := fun a ha => by
        obtain ⟨j, j1, j2⟩ := sig_lt (nx := N) (sg := c.sg) (i := a) (by omega)
        rw [j2]; exact List.mem_of_getElem? j1
      rcases hi with ⟨so, hi⟩ | hi
      · obtain ⟨a, s0, rfl, q2, q3, q4⟩ := back i so hi
        rcases Nat.lt_or_ge a c.nxc with g | g
        · rw [nlt g]; exact .inr (insg a g)
        · rw [nge g q2]; exact .inl ⟨a - c.nxc, by omega, rfl⟩
      · obtain ⟨a, h1, rfl⟩ := List.mem_map.1 hi
        exact .inr (insg a (k6 a h1))
    · intro i so hi hlive
      obtain ⟨a, s0, rfl, q2, q3, rfl⟩ := back i so hi
      obtain ⟨bl, o, p1, p2, p3, p4, p5⟩ := hs2.own a s0 q3 (renO_live hlive)
      refine ⟨bl, o, hvia a bl p1, p3, renO_rel (ORel.mono hvia _ _ p4), ?_, ?_⟩
      · have := hvia.r a bl p1
        have e : β'.room (sig N (cz.names b idn) a) = β2.room a := this
        rw [e]; exact p5
      · by_cases hf : Foot β hpv c.hpc N c.sg bl
        · exact .inr (footm bl hf)
        · have p2 : D bl = none := p2D bl p2
          rw [hD2 bl hf] at p2
          left
          simpa using p2
    · intro i i' so so' hi hi' ls ls' hne
      obtain ⟨a, s0, rfl, q2, q3, rfl⟩ := back i so hi
      obtain ⟨a', s0', rfl, q2', q3', rfl⟩ := back i' so' hi'
      have hne' : a ≠ a' := by rintro rfl; exact hne rfl
      have ap := hs2.apart a a' s0 s0' q3 q3' (renO_live ls) (renO_live ls') hne'
      obtain ⟨bl, o, p1, _⟩ := hs2.own a s0 q3 (renO_live ls)
      obtain ⟨bl', o', p1', _⟩ := hs2.own a' s0' q3' (renO_live ls')
      have r1 : β' (sig N (cz.names b idn) a) = some bl := hvia a bl p1
      have r2 : β' (sig N (cz.names b idn) a') = some bl' := hvia a' bl' p1'
      rw [r1, r2]; rw [p1, p1'] at ap; exact ap
    · intro bl o he hno'
      have hnf : ¬ Foot β hpv c.hpc N c.sg bl := fun hf => by
        obtain ⟨t, s, h1, h2, h3, h4⟩ := footm bl hf
        exact hno' t s h1 h2 h3 h4
      exact hs2.old bl o (hF.keep bl o (by show D bl = some o; rw [hD2 bl hnf]; exact he) (fun h => h))
  refine ⟨z, β', u, B', K', rfl, hψ, (by rw [hdz]; exact hdid), (by rw [hcz, ← c_r]; exact (ren_rel _ _).2 (Rel.mono hvia _ _ hu)), hFB, rfl, rfl, ?_, ?_, ?_⟩
  · intro i so bl hi hlive hbl
    rw [hdz] at hi
    obtain ⟨a, s0, rfl, q2, q3, rfl⟩ := back i so hi
    obtain ⟨bl', o, p1, p2, p3, p4, p5⟩ := hs2.own a s0 q3 (renO_live hlive)
    have e := hvia a bl' p1
    have e : β' (sig N (cz.names b idn) a) = some bl' := e
    rw [hbl] at e; injection e with e; subst e
    cases hb : B'.D bl with
    | none => rfl
    | some o1 => rw [hB'3 bl o1 hb] at p2; cases p2
  · exact fun bl o h => hs2.old bl o (hB'3 bl o h)
  · intro bl o h1 h2 h3
    rw [hdz] at h3
    rw [hB'2 bl h1]
    cases hk : K' bl with
    | none => rfl
    | some o1 =>
      exfalso
      rcases hF.new bl o1 hk with g | g
      · exact g (hK0 bl h1)
      · have g : D bl = none := g
        have hnf : ¬ Foot β hpv c.hpc N c.sg bl := fun hf => by
          obtain ⟨t, s, q1, q2, q3, q4⟩ := footm bl hf
          exact h3 t s q1 q2 q3 q4
        rw [hD2 bl hnf, h2] at g; cases g

theorem rcx_did {ι : Type} {ψ : ι → Kn → Prop} {K0 : Kn} {D : DRel} {dd : List Deferred} (hP : Named P) (hkn : ∀ bb o, K0 bb = some o → B.D bb = some o) {c : RC} {out : ι → Out} (z0 : ι) (hHC : HCX P K0 M0 c.g c.xs c.hpc c.roc c.nxc ψ out) (hlc : c.sg.length = c.nxc) (hno : ∀ z, c.nxc ≤ (out z).nx) {tb : ι → RT} (hch : Chain D ops n nx m b Sl Hs dr) (hin : Indeps T m b dr) (h0 : ∀ t v, look t (Sl 0) = some v → t < n) {X : Nat → Prop} (hX' : Closed T m b X) {j : Nat} (hj : j < b) (hjX : ¬ X j)
    (hpre : ∀ i, i < b → inT T (m + i) (m + j) = true → X i) {β : Env} {tmps : Array Value} {w : World} (hI : Inv b nx K Sl Hs dr ro B X β tmps w) (hsz : tmps.size = n)
    {o : Oper} {csz : ι → List Prop} {drz : ι → DR} (ho : ops[m + j]? = some o) (hgn : o.guard = none) (hc : ∀ z, All (csz z)) (hrt : ∀ z, rtGet (nx + j) (tb z) = some (c.outs (out z))) (hd : ∀ z, dopR (Pinned B) P M ro ops (tb z) b K (nx + b * K) (nx + j) o (Sl j) (Hs j) = some (csz z, drz z)) (hd0 : drz z0 = dr j) (fb : Frame) (k : List Item) (fs : List Frame) (r : List Nat) :
    ∃ (z : ι) (β' : Env) (w' : World) (v : Value) (B' : Base) (K' : Kn), ψ z K' ∧ Did (Hs j) β (drz z) (fun i => ∃ k, k < K ∧ i = nx + j + k * b) w β' w' ∧ Rel β' (drz z).v v ∧
      Fz B K0 M0 B' K' ∧ B'.pin = B.pin ∧ B'.w = w' ∧ (∀ i so bl, hget i (drz z).wh = some so → so.Live → β' i = some bl → B'.D bl = none) ∧ (∀ bl o, B'.D bl = some o → w'.heap[bl]? = some o) ∧
      (∀ bl o, B.D bl = none → w.heap[bl]? = some o → (∀ t s, t ∈ (drz z).mod → hget t (Hs j) = some s → s.Live → β t = some bl → False) → B'.D bl = none) ∧
      Steps P (lone (fb.atR ⟨tmps, dd⟩ (.inRegion ops ((m + j) :: r) :: k)) fs w) (lone (fb.atR (Act.put ⟨tmps, dd⟩ o.dst v) (.inRegion ops r :: k)) fs w') := by
  have hltj := chain_lt hch h0 j (by omega)
  have key : ∃ slv hpv gf gb as cs0 cs1, thin (opSlots ops o) (Sl j) = some slv ∧ thinH c.sg (Hs j) = some hpv ∧ callee P slv o.op = some (cs0, c.g, gf, gb, as) ∧ rcConds (Pinned B) c (nx + b * K) ro hpv as = some cs1 ∧ (All cs0 ∧ All cs1) ∧
      ∀ z, rcChk (c.outs (out z)) b K (nx + b * K) c.g = true ∧ drz z = ⟨opSlots ops o, o.dst, c.sg, renH' (nx + b * K) ((c.outs (out z)).names b (nx + j)) [] (out z).hp, (hkeys c.hpc).map (sig (nx + b * K) c.sg), ren (nx + b * K) ((c.outs (out z)).names b (nx + j)) (out z).r⟩ := by
    have one : ∀ z, ∃ slv hpv gf gb as cs0 cs1, thin (opSlots ops o) (Sl j) = some slv ∧ thinH c.sg (Hs j) = some hpv ∧ callee P slv o.op = some (cs0, c.g, gf, gb, as) ∧ rcConds (Pinned B) c (nx + b * K) ro hpv as = some cs1 ∧ (All cs0 ∧ All cs1) ∧
      rcChk (c.outs (out z)) b K (nx + b * K) c.g = true ∧ drz z = ⟨opSlots ops o, o.dst, c.sg, renH' (nx + b * K) ((c.outs (out z)).names b (nx + j)) [] (out z).hp, (hkeys c.hpc).map (sig (nx + b * K) c.sg), ren (nx + b * K) ((c.outs (out z)).names b (nx + j)) (out z).r⟩ := by
      intro z
      have hd := hd z
      have hc := hc z
      unfold dopR at hd
      rw [hrt z] at hd
      simp only at hd
      split at hd <;> first | exact (none_ne hd).elim | skip
      rename_i slv e1
      split at hd <;> first | exact (none_ne hd).elim | skip
      rename_i hpv e2
      split at hd <;> first | exact (none_ne hd).elim | skip
      rename_i gd cs0 g gf gb as eg e3
      obtain ⟨hb, hd2⟩ := bif_some' hd
      clear hd
      have hd := hd2
      clear hd2
      have hgeq : g = c.g := by
        unfold rcChk at hb
        simp only [Bool.and_eq_true] at hb
        exact beq_nat hb.1.1.1.1.1.1
      subst hgeq
      split at hd <;> first | exact (none_ne hd).elim | skip
      rename_i cs1 e4
      have egn : gd = none := by
        have : guardIn ops slv o = some .run := by unfold guardIn; rw [hgn]
        unfold guardC at eg
        rw [this] at eg
        simpa using eg.symm
      subst egn
      simp only at hd
      rw [renF_eq, renH_eq] at hd
      simp only [Option.some.injEq, Prod.mk.injEq] at hd
      obtain ⟨hd1, hd2⟩ := hd
      rw [← hd1] at hc
      refine ⟨slv, hpv, gf, gb, as, cs0, cs1, e1, e2, e3, e4, ⟨hc.left, hc.right⟩, hb, ?_⟩
      rw [← hd2, sigL_eq]
    obtain ⟨slv, hpv, gf, gb, as, cs0, cs1, e1, e2, e3, e4, e5, _⟩ := one z0
    refine ⟨slv, hpv, gf, gb, as, cs0, cs1, e1, e2, e3, e4, e5, fun z => ?_⟩
    obtain ⟨_, _, _, _, _, _, _, _, _, _, _, _, q1, q2⟩ := one z
    exact ⟨q1, q2⟩
  obtain ⟨slv, hpv, gf, gb, as, cs0, cs1, e1, e2, e3, e4, ⟨a0, a1⟩, hz⟩ := key
  have hrs : (dr j).rs = opSlots ops o ∧ (dr j).rh = c.sg := by rw [← hd0, (hz z0).2]; exact ⟨rfl, rfl⟩
  have hrho := rho_view (dd := dd) hch hin hX' hj hjX hpre hI e1 hrs.1
  have hlt : ∀ t v, look t slv = some v → t < tmps.size := by
    intro t v hv
    rw [thin_get e1 t] at hv
    split at hv
    · rw [hsz]; exact hltj t v hv
    · cases hv
  have g2 := thinH_get e2
  have hview : ∀ t s, hget t hpv = some s → hget t (Hs j) = some s := by
    intro t s hs
    rw [g2 t] at hs
    split at hs
    · exact hs
    · cases hs
  have rdH : ∀ {t}, t ∈ c.sg → ∀ s, hget t (Hs j) = some s → ∃ kk, LastH b dr X t kk ∧ hget t (Hs kk) = some s := by
    intro t ht s hs
    obtain ⟨kk, k1, k2⟩ := read_heap hch hin hX' hj hjX hpre (t := t) (by rw [hrs.2]; exact ht)
    exact ⟨kk, k1, by rw [k2]; exact hs⟩
  have hsat : Sat β hpv ro B (nx + b * K) w := by
    refine ⟨⟨?_, ?_, hI.read, hI.old, hI.os, hI.tape, hI.output, hI.size, hI.pin⟩, ?_⟩
    · intro i s hi hlive
      rw [g2 i] at hi
      split at hi
      · rename_i hm
        obtain ⟨kk, k1, k2⟩ := rdH (hasN_mem.1 hm) s hi
        exact hI.H i kk s k1 k2 hlive
      · cases hi
    · intro i i' s s' hi hi' ls ls' hne
      rw [g2 i] at hi
      rw [g2 i'] at hi'
      split at hi
      · rename_i hm
        split at hi'
        · rename_i hm'
          obtain ⟨kk, k1, k2⟩ := rdH (hasN_mem.1 hm) s hi
          obtain ⟨kk', k1', k2'⟩ := rdH (hasN_mem.1 hm') s' hi'
          exact hI.A i kk s i' kk' s' k1 k2 k1' k2' ls ls' hne
        · cases hi'
      · cases hi
    · intro i hi
      cases hb' : β i with
      | none => rfl
      | some bl =>
        rcases hI.F _ bl hb' with h | ⟨j', c', h1, h2, h3⟩
        · have := Nat.le_add_right nx (b * K); omega
        · have h4 : (c' + 1) * b ≤ K * b := Nat.mul_le_mul_right b h2
          rw [Nat.add_mul, Nat.mul_comm K b] at h4
          have := hX'.lt j' h1
          omega
  have hfresh : ∀ k, β (nx + j + k * b) = none := fun k => inv_fresh hX' hj hjX hI k
  obtain ⟨hfn, hbd, vs, hl, hrun⟩ := callee_run (w := w) hP hrho e3 a0
  have hgd : guardIn ops slv o = some .run := by unfold guardIn; rw [hgn]
  have hw := guard_rel hgd hsz hrho.slot hlt
  have hst := op_enter (P := P) (b := fb) (a := ⟨tmps, dd⟩) (k := k) (cs := fs) (w := w) (ops := ops) (i := m + j) (rest := r) ho hw hrun
  have hcall := call_didX (ro := ro) (B := B) (b := b) (K := K) (d := drz) hkn z0 hHC hlc hno (by omega) hview hfresh hsat (fun z => (hz z).1) e4 a1 hl (fun z => by rw [(hz z).2]) (fun z => by rw [(hz z).2]) (fun z => by rw [(hz z).2])
  obtain ⟨e, w', fr', ⟨z, β', u, B', K', rfl, hψ, hdid, hu, hF, p1, p2, p3, p4, p5⟩, hco, _, hlv⟩ := hcall (fb.atR ⟨tmps, dd⟩ (.inRegion ops ((m + j) :: r) :: k) :: fs)
  refine ⟨z, β', w', u, B', K', hψ, hdid, by rw [(hz z).2]; exact hu, hF, p1, p2, p3, p4, p5, (Steps.one hst).trans (Steps.trans hco (.one ?_))⟩
  have hfin : (fb.atR ⟨tmps, dd⟩ (.inRegion ops ((m + j) :: r) :: k)).finish u = fb.atR (Act.put ⟨tmps, dd⟩ o.dst u) (.inRegion ops r :: k) := by rw [Frame.finish_atR, ho]; rfl
  rw [← hfin]
  exact step_leave_returned hlv
end
section
variable {T : List (List Nat)} {ops : Array Oper} {n idn K m b : Nat} {D D' : DRel} {Sl Sl' : Nat → Slots} {Hs Hs' : Nat → Hp} {dr dr' : Nat → DR} {ro : Hp} {B B' : Base}
/-- Two runs of a block that agree up to c. -/
theorem chain_eq (h : Chain D ops n idn m b Sl Hs dr) (h' : Chain D' ops n idn m b Sl' Hs' dr') (e1 : Sl 0 = Sl' 0) (e2 : Hs 0 = Hs' 0) (c : Nat) (hc : c ≤ b) (hd : ∀ j, j < c → dr j = dr' j) : ∀ j, j ≤ c → Sl j = Sl' j ∧ Hs j = Hs' j
  | 0, _ => ⟨e1, e2⟩
  | j + 1, hj => by
    obtain ⟨i1, i2⟩ := chain_eq h h' e1 e2 c hc hd j (by omega)
    obtain ⟨o, cs, a1, a2, a3, a4, a5⟩ := h.step j (by omega)
    obtain ⟨o', cs', b1, b2, b3, b4, b5⟩ := h'.step j (by omega)
    rw [a1] at b1; injection b1 with b1; subst b1
    rw [hd j (by omega), i1] at a4
    rw [hd j (by omega), i2] at a5
    rw [a4] at b4; injection b4 with b4
    rw [a5] at b5; injection b5 with b5
    exact ⟨b4, b5⟩
/-- What holds while a block is under way speaks of the operations that are done alone. -/
theorem inv_chain (h : Chain D ops n idn m b Sl Hs dr) (h' : Chain D' ops n idn m b Sl' Hs' dr') (e1 : Sl 0 = Sl' 0) (e2 : Hs 0 = Hs' 0) {X : Nat → Prop} (hX : Closed T m b X) (hd : ∀ j, X j → dr j = dr' j) {β : Env} {tmps : Array Value} {w : World} (hI : Inv b idn K Sl Hs dr ro B X β tmps w) : Inv b idn K Sl' Hs' dr' ro B X β tmps w := by
  have lS : ∀ {t k}, LastS b dr' X t k → LastS b dr X t k := by
    rintro t k ⟨h1, h2, h3⟩
    refine ⟨h1, ?_, fun i hi he => h3 i hi (by rw [← hd i hi]; exact he)⟩
    rcases h2 with h2 | ⟨h2, h4⟩
    · exact .inl h2
    · exact .inr ⟨h2, by rw [hd _ h2]; exact h4⟩
  have lH : ∀ {t k}, LastH b dr' X t k → LastH b dr X t k := by
    rintro t k ⟨h1, h2, h3⟩
    refine ⟨h1, ?_, fun i hi he => h3 i hi (by rw [← hd i hi]; exact he)⟩
    rcases h2 with h2 | ⟨h2, h4⟩
    · exact .inl h2
    · exact .inr ⟨h2, by rw [hd _ h2]; exact h4⟩
  have sS : ∀ {t k}, LastS b dr' X t k → look t (Sl k) = look t (Sl' k) := by
    rintro t k ⟨h1, h2, h3⟩
    rcases h2 with h2 | ⟨h2, h4⟩
    · subst h2; rw [e1]
    · cases k with
      | zero => rw [e1]
      | succ k =>
        have h2 : X k := h2
        have h4 : (dr' k).dst = some t := h4
        obtain ⟨o, cs, a1, a2, a3, a4, a5⟩ := h.step k (hX.lt k h2)
        obtain ⟨o', cs', b1, b2, b3, b4, b5⟩ := h'.step k (hX.lt k h2)
        rw [a1] at b1; injection b1 with b1; subst b1
        rw [(put_look a4 t).1, (put_look b4 t).1, ← b3.2, if_pos h4, if_pos h4, hd k h2]
  have sH : ∀ {t k}, LastH b dr' X t k → hget t (Hs k) = hget t (Hs' k) := by
    rintro t k ⟨h1, h2, h3⟩
    rcases h2 with h2 | ⟨h2, h4⟩
    · subst h2; rw [e2]
    · cases k with
      | zero => rw [e2]
      | succ k =>
        have h2 : X k := h2
        have h4 : t ∈ (dr' k).mod := h4
        obtain ⟨o, cs, a1, a2, a3, a4, a5⟩ := h.step k (hX.lt k h2)
        obtain ⟨o', cs', b1, b2, b3, b4, b5⟩ := h'.step k (hX.lt k h2)
        rw [hmod_get a5 t, hmod_get b5 t, hd k h2]
        unfold hmodV
        unfold DR.mod at h4
        rw [wkeys_mem] at h4
        rcases h4 with ⟨so, h4⟩ | h4
        · rw [h4]
        · cases hget t (dr' k).wh with
          | some so => rfl
          | none => simp only [if_pos h4]
  exact ⟨fun t k v hL hl => hI.S t k v (lS hL) (by rw [sS hL]; exact hl), fun t k s hL hl => hI.H t k s (lH hL) (by rw [sH hL]; exact hl),
    fun t k s t' k' s' hL hl hL' hl' => hI.A t k s t' k' s' (lH hL) (by rw [sH hL]; exact hl) (lH hL') (by rw [sH hL']; exact hl'), hI.F, hI.read, hI.old, hI.os, hI.tape, hI.output, hI.size, hI.pin⟩
/-- On another base. -/
theorem inv_base {X : Nat → Prop} {β : Env} {tmps : Array Value} {w : World} (hI : Inv b idn K Sl Hs dr ro B X β tmps w) (h1 : ∀ t k s bl, LastH b dr X t k → hget t (Hs k) = some s → s.Live → β t = some bl → B'.D bl = none)
    (h2 : ∀ bl o, B.D bl = some o → B'.D bl = some o) (h3 : ∀ bl o, B'.D bl = some o → w.heap[bl]? = some o) (h4 : B'.w = w) (h5 : B'.pin = B.pin) : Inv b idn K Sl Hs dr ro B' X β tmps w := by
  refine ⟨hI.S, fun t k s hL hl hlive => ?_, hI.A, hI.F, fun i s hi hl => ?_, h3, by rw [h4], by rw [h4], by rw [h4], by rw [h4]; exact Nat.le_refl _, by rw [h5]; exact hI.pin⟩
  · obtain ⟨bl, o, q1, q2, q3⟩ := hI.H t k s hL hl hlive
    exact ⟨bl, o, q1, h1 t k s bl hL hl hlive q1, q3⟩
  · obtain ⟨bl, o, q1, q2, q3⟩ := hI.read i s hi hl
    exact ⟨bl, o, q1, h2 bl o q2, q3⟩
end
theorem inT_lt {ops : Array Oper} {T : List (List Nat)} (hT : TOk ops T) : ∀ (N j : Nat), j ≤ N → j < ops.size → ∀ i, inT T i j = true → i < j
  | N, j, hN, hj, i, hi => by
    obtain ⟨l, h1, h2, h3⟩ := hT.row j ops[j] (Array.getElem?_eq_getElem hj)
    obtain ⟨l', g1, g2⟩ := inT_spec.1 hi
    rw [h1] at g1; injection g1 with g1; subst g1
    rcases h3 i g2 with h | ⟨p, h4, q, h5, h6⟩
    · exact h2 i h
    · have hp := h2 p h4
      cases N with
      | zero => omega
      | succ N =>
        have := inT_lt hT N p (by omega) (by omega) i (inT_spec.2 ⟨q, h5, h6⟩)
        omega
section
variable {P : Program} {M : Mode} {ro : Hp} {B : Base} {f : FuncId} {R : Ending → World → Prop}
/-- A block of b operations from the m-th on, in whatever order: J is kept; it ends on another base. -/
theorem run_drawJX (b : Nat) {fn : FId} {n : Nat} {sl : Slots} {ops : Array Oper} {m t : Nat} {k : List SI} {rest : List SFr} {hp : Hp} {nx : Nat} {T : List (List Nat)} {dst : Nat → Option Tmp} {J : (Nat → Prop) → Env → Array Value → World → Prop}
    (hT : closeGo [] ops.toList = some T) (hle : Nat.ble (m + b) ops.size = true) (hbar : barAll T m b (m + b) (ops.size - (m + b)) = true)
    (hj0 : ∀ β tmps w, (∀ t v, look t sl = some v → Rel β v (tmps.getD t undef)) → Sat β hp ro B nx w → J (fun _ => False) β tmps w)
    (hjs : (∀ t v, look t sl = some v → t < n) → ∀ dd fb k fs, StepJ P ops T n m b dst dd fb k fs J)
    (hj1 : ∀ β tmps w, J (fun i => i < b) β tmps w → ∃ (sl' : Slots) (hp' : Hp) (B' : Base) (nx' : Nat), B'.kd = B.kd ∧ (∀ t v, look t sl' = some v → Rel β v (tmps.getD t undef)) ∧ Sat β hp' ro B' nx' w ∧ ((∀ t v, look t sl = some v → t < n) → ∀ t v, look t sl' = some v → t < n) ∧
      ∀ t, Run P ro B' f R ⟨⟨fn, n, sl', .reg ops (m + b) [] (some (goF ops (m + b) t)) :: k⟩, rest, hp', nx'⟩) : Run P ro B f R ⟨⟨fn, n, sl, .reg ops m [] (some (goF ops m t)) :: k⟩, rest, hp, nx⟩ := by
  have hle := ble_nat hle
  have hbar' : ∀ y, m + b ≤ y → y < ops.size → ∀ i, i < b → inT T (m + i) y = true := fun y h1 h2 i hi => barAll_spec hbar y h1 (by omega) i hi
  intro β w fr frs cs' hf hfs hs hcs
  have hX0 : (fun i => i < b ∧ (listedTo ops.size m).getD (m + i) false = true) = fun _ => False := by
    funext i; apply propext
    constructor
    · rintro ⟨h3, h4⟩
      rw [listedTo_get] at h4; split at h4 <;> simp at h4 <;> omega
    · exact False.elim
  have hI : J (fun i => i < b ∧ (listedTo ops.size m).getD (m + i) false = true) β fr.tmps w := by rw [hX0]; exact hj0 β fr.tmps w hf.slot hs
  obtain ⟨t', β', tmps', w', s1, s2, s3, s4⟩ := blk_anyJ (dd := fr.defers) (tok_of hT) hle hbar' fr (k.map SI.item) (frs ++ cs') (hjs hf.lt fr.defers fr (k.map SI.item) (frs ++ cs')) (ops.size - m) t (listedTo ops.size m) β fr.tmps w (by simp [listedTo])
    (cnt_to _ _ (by omega)) (fun i hi => by rw [listedTo_get, if_pos (by omega)]; simp [hi]) (fun i hi => by rw [listedTo_get]; split <;> simp; omega)
    (fun j o hj ho p hp' => by
      rw [listedTo_get] at hj ⊢
      split at hj
      · simp at hj
        obtain ⟨_, _, g2, _⟩ := (tok_of hT).row j o ho
        have := g2 p hp'
        rw [if_pos (by omega)]; simp; omega
      · cases hj) hI hf.size
  obtain ⟨sl', hp', B', nx', hkd, e1, hmem, hlt, h⟩ := hj1 β' tmps' w' s2
  have key := h t' β' w' (fr.atR ⟨tmps', fr.defers⟩ ((SI.reg ops (m + b) [] (some (goF ops (m + b) t')) :: k).map SI.item)) frs cs' (FrRel.of hf.fn hf.rnd hf.kind (hf.defers.mono s4) s3 e1 (hlt hf.lt) (fun y hy => by
      cases hy with
      | head => intro i hi; simp at hi
      | tail _ hm => exact hf.ok y (List.mem_cons_of_mem _ hm))) (hfs.mono s4) hmem
  rw [hkd] at key
  obtain ⟨e, w2, fr2, hR, hcm, r⟩ := key hcs
  refine ⟨e, w2, fr2, hR, .of_steps ?_ hcm, r⟩
  have := hf.at
  rw [this]
  exact s1
/-- The two lists tell the same of all operations that do not wait for c. -/
def sameAt (T : List (List Nat)) (m c : Nat) : Nat → List DR → List DR → Prop
  | _, [], _ => True
  | _, _ :: _, [] => False
  | j, d :: l, d' :: l' => (inT T (m + c) (m + j) = true ∨ Nat.beq j c = true ∨ d = d') ∧ sameAt T m c (j + 1) l l'
theorem sameAt_spec {T : List (List Nat)} {m c : Nat} : ∀ {l l' : List DR} {i : Nat}, sameAt T m c i l l' → ∀ (k : Nat) (d d' : DR), l[k]? = some d → l'[k]? = some d' → inT T (m + c) (m + (i + k)) = false → i + k ≠ c → d = d'
  | [], _, i, _, k, d, d', h, _, _, _ => by simp at h
  | x :: l, [], i, h, _, _, _, _, _, _, _ => h.elim
  | x :: l, y :: l', i, h, 0, d, d', h1, h2, h3, h4 => by
    simp at h1 h2; subst h1 h2
    rcases h.1 with q | q | q
    · rw [Nat.add_zero] at h3; rw [h3] at q; cases q
    · exact absurd (beq_nat q) h4
    · exact q
  | x :: l, y :: l', i, h, k + 1, d, d', h1, h2, h3, h4 =>
    sameAt_spec h.2 k d d' (by simpa using h1) (by simpa using h2) (by rw [show i + 1 + k = i + (k + 1) by omega]; exact h3) (by omega)
/-- A block of b operations from the m-th on, in whatever order; the c-th is a call that may leave blocks behind that are written no more. -/
theorem run_drawX {ι : Type} {K0 : Kn} (hkn : ∀ b o, K0 b = some o → B.D b = some o) (K b : Nat) (hK : Nat.ble 1 K = true) (hP : Named P) (hB : B.ok) (hM : SumOk P M.sum) {fn : FId} {n : Nat} {sl : Slots} {ops : Array Oper} {m t : Nat} {k : List SI} {rest : List SFr} {hp : Hp} {nx nx' : Nat} {T : List (List Nat)}
    (c : Nat) (rc : RC) {ψ : ι → Kn → Prop} {out : ι → Out} (z0 : ι) (hHC : HCX P K0 M0 rc.g rc.xs rc.hpc rc.roc rc.nxc ψ out) (hlc : rc.sg.length = rc.nxc) (hno : ∀ z, rc.nxc ≤ (out z).nx) (tb : RT) (htb : rtOkK P K0 tb)
    {cs : ι → List Prop} {sl' : ι → Slots} {hp' : ι → Hp} {l : ι → List DR}
    (hT : closeGo [] ops.toList = some T) (hN : natF (nx + b * K) some = some nx') (hb : ∀ z, dblkG (dopR (Pinned B) P M ro ops ((nx + c, rc.outs (out z)) :: tb) b K nx') n ((ops.toList.drop m).take b) nx sl hp [] = some (cs z, sl' z, hp' z, l z)) (hle : Nat.ble (m + b) ops.size = true) (hi : ∀ z, indepAll T m (l z) = true)
    (hbar : barAll T m b (m + b) (ops.size - (m + b)) = true) (hcb : Nat.blt c b = true) (hng : (ops[m + c]?).bind (·.guard) = none) (hsame : ∀ z, sameAt T m c 0 (l z) (l z0)) (hc : ∀ z, conj (cs z))
    (h : ∀ z B' K', ψ z K' → Fz B K0 M0 B' K' → B'.pin = B.pin → ∀ t, Run P ro B' f R ⟨⟨fn, n, sl' z, .reg ops (m + b) [] (some (goF ops (m + b) t)) :: k⟩, rest, hp' z, nx'⟩) : Run P ro B f R ⟨⟨fn, n, sl, .reg ops m [] (some (goF ops m t)) :: k⟩, rest, hp, nx⟩ := by
  rw [natF_eq] at hN
  injection hN with hN; subst hN
  have hK := ble_nat hK
  have hcb : c < b := by rw [Nat.blt_eq] at hcb; exact hcb
  have hle' := ble_nat hle
  have hlen : ((ops.toList.drop m).take b).length = b := by simp; omega
  have chains : ∀ z, ∃ q : (Nat → Slots) × (Nat → Hp) × (Nat → DR), q.1 0 = sl ∧ q.2.1 0 = hp ∧ q.1 b = sl' z ∧ q.2.1 b = hp' z ∧
      Chain (fun idn o sl hp cs d => dopR (Pinned B) P M ro ops ((nx + c, rc.outs (out z)) :: tb) b K (nx + b * K) idn o sl hp = some (cs, d)) ops n nx m b q.1 q.2.1 q.2.2 ∧ (∀ j, j < b → (l z)[j]? = some (q.2.2 j)) := by
    intro z
    obtain ⟨_, Sl, Hs, dr, c1, c2, c3, c4, hch, c5, c6⟩ := dblkG_chain (dopR_dst (pn := Pinned B) (P := P) (M := M) (ro := ro) (ops := ops) (tb := (nx + c, rc.outs (out z)) :: tb) (b := b) (K := K) (N := nx + b * K)) (ops := ops) (m := m) (hb z) (all_conj (hc z)) (fun i hi => by
      rw [hlen] at hi
      rw [List.getElem?_take, if_pos hi, List.getElem?_drop]; simp)
    rw [hlen] at c3 c4 hch c5 c6
    exact ⟨(Sl, Hs, dr), c1, c2, c3, c4, hch, c5⟩
  obtain ⟨q, hq⟩ := Classical.axiomOfChoice chains
  have hin : ∀ z, Indeps T m b (q z).2.2 := fun z i j hij hj hT0 => by
    rcases indepAll_spec (hi z) i j _ _ hij ((hq z).2.2.2.2.2 i (by omega)) ((hq z).2.2.2.2.2 j hj) with h | h
    · rw [h] at hT0; cases hT0
    · exact h
  have tb_other : ∀ z j, j ≠ c → rtGet (nx + j) ((nx + c, rc.outs (out z)) :: tb) = rtGet (nx + j) tb := fun z j hj => by
    simp only [rtGet]
    rw [beq_false_of (by omega)]; rfl
  have tb_c : ∀ z, rtGet (nx + c) ((nx + c, rc.outs (out z)) :: tb) = some (rc.outs (out z)) := fun z => by
    simp only [rtGet, Nat.beq_refl, cond_true]
  have agree : ∀ z j, j < b → j ≠ c → inT T (m + c) (m + j) = false → (q z0).2.2 j = (q z).2.2 j := fun z j hj hjc hT0 => by
    have := sameAt_spec (hsame z) j _ _ ((hq z).2.2.2.2.2 j hj) ((hq z0).2.2.2.2.2 j hj) (by rw [Nat.zero_add]; exact hT0) (by omega)
    exact this.symm
  have hTlt : ∀ j, j < c → inT T (m + c) (m + j) = false := fun j hj => by
    cases hT0 : inT T (m + c) (m + j) with
    | false => rfl
    | true => have := inT_lt (tok_of hT) _ _ (Nat.le_refl _) (by omega) _ hT0; omega
  refine run_drawJX b (dst := fun j => ((q z0).2.2 j).dst) (J := fun X β tmps w => (¬ X c ∧ Inv b nx K (q z0).1 (q z0).2.1 (q z0).2.2 ro B X β tmps w) ∨ (X c ∧ ∃ z B' K', ψ z K' ∧ Fz B K0 M0 B' K' ∧ B'.pin = B.pin ∧ Inv b nx K (q z).1 (q z).2.1 (q z).2.2 ro B' X β tmps w)) hT hle hbar
    (fun β tmps w h1 h2 => .inl ⟨fun h => h, inv_none (fun _ _ _ => trivial) (by rw [(hq z0).1]; exact h1) (by rw [(hq z0).2.1]; exact h2)⟩) ?_ ?_
  · intro hlt dd fb k fs X j hX hj hjX hpre β tmps w hJ hsz r
    have heq : ∀ z, (q z0).1 c = (q z).1 c ∧ (q z0).2.1 c = (q z).2.1 c := fun z =>
      chain_eq (hq z0).2.2.2.2.1 (hq z).2.2.2.2.1 (by rw [(hq z0).1, (hq z).1]) (by rw [(hq z0).2.1, (hq z).2.1]) c (by omega) (fun i hi => agree z i (by omega) (by omega) (hTlt i hi)) c (Nat.le_refl _)
    have hdst : ∀ z, ((q z).2.2 j).dst = ((q z0).2.2 j).dst := fun z => by
      obtain ⟨o, cs1, d1, d2, ⟨d3, d4⟩, d5, d6⟩ := (hq z0).2.2.2.2.1.step j hj
      obtain ⟨o', cs', e1, e2, ⟨e3, e4⟩, e5, e6⟩ := (hq z).2.2.2.2.1.step j hj
      rw [d1] at e1; injection e1 with e1; subst e1
      rw [d4, e4]
    have other : ∀ (z : ι) (B1 : Base), B1.ok → B1.pin = B.pin → (∀ bb o, K0 bb = some o → B1.D bb = some o) → Inv b nx K (q z).1 (q z).2.1 (q z).2.2 ro B1 X β tmps w → j ≠ c →
        ∃ (β' : Env) (w' : World) (v : Value), β.le β' ∧ Inv b nx K (q z).1 (q z).2.1 (q z).2.2 ro B1 (fun i => X i ∨ i = j) β' (Act.put ⟨tmps, dd⟩ ((q z0).2.2 j).dst v).tmps w' ∧
          Steps P (lone (fb.atR ⟨tmps, dd⟩ (.inRegion ops ((m + j) :: r) :: k)) fs w) (lone (fb.atR (Act.put ⟨tmps, dd⟩ ((q z0).2.2 j).dst v) (.inRegion ops r :: k)) fs w') := by
      intro z B1 hB1 hp1 hk1 hI hjc
      have hpn : Pinned B1 = Pinned B := by funext i; unfold Pinned; rw [hp1]
      obtain ⟨o, cs1, d1, d2, ⟨d3, d4⟩, d5, d6⟩ := (hq z).2.2.2.2.1.step j hj
      have d3 : dopR (Pinned B1) P M ro ops tb b K (nx + b * K) (nx + j) o ((q z).1 j) ((q z).2.1 j) = some (cs1, (q z).2.2 j) := by
        rw [hpn, ← dopR_tb (tb_other z j hjc)]; exact d3
      rw [← hdst z]
      cases hrt : rtGet (nx + j) tb with
      | none =>
        have d3' := d3
        unfold dopR at d3'
        rw [hrt] at d3'
        obtain ⟨β1, w1, v, a1, a2, a4⟩ := op_did1 (dd := dd) hP hM (hq z).2.2.2.2.1 (hin z) (by rw [(hq z).1]; exact hlt) hX hj hjX hpre hI hsz d1 d2 d3' fb k fs r
        exact ⟨β1, w1, v, a1.le, inv_step hB1 (hq z).2.2.2.2.1 (hin z) hX hj hjX hpre hI hsz (fun i hi => ⟨0, by omega, by simpa using hi⟩) a1 a2, a4⟩
      | some c' =>
        obtain ⟨β1, w1, v, a1, a2, a4⟩ := rc_did (dd := dd) hP hk1 htb (hq z).2.2.2.2.1 (hin z) (by rw [(hq z).1]; exact hlt) hX hj hjX hpre hI hsz d1 d2 hrt d3 fb k fs r
        exact ⟨β1, w1, v, a1.le, inv_step hB1 (hq z).2.2.2.2.1 (hin z) hX hj hjX hpre hI hsz (fun i hi => hi) a1 a2, a4⟩
    rcases hJ with ⟨hXc, hI⟩ | ⟨hXc, z, B', K', hψ, hF, hpin, hI⟩
    · by_cases hjc : j = c
      · subst hjc
        obtain ⟨o, cs1, d1, d2, ⟨d3, d4⟩, d5, d6⟩ := (hq z0).2.2.2.2.1.step j hj
        have hgn : o.guard = none := by rw [d1] at hng; simpa using hng
        have hz : ∀ z, ∃ csz : List Prop, All csz ∧ dopR (Pinned B) P M ro ops ((nx + j, rc.outs (out z)) :: tb) b K (nx + b * K) (nx + j) o ((q z0).1 j) ((q z0).2.1 j) = some (csz, (q z).2.2 j) := by
          intro z
          obtain ⟨o', cs', e1, e2, ⟨e3, e4⟩, e5, e6⟩ := (hq z).2.2.2.2.1.step j hj
          rw [d1] at e1; injection e1 with e1; subst e1
          rw [(heq z).1, (heq z).2]
          exact ⟨cs', e2, e3⟩
        obtain ⟨csz, hcsz⟩ := Classical.axiomOfChoice hz
        obtain ⟨z, β1, w1, v, B', K', a1, a2, a3, a4, a5, a6, a7, a8, a9, a10⟩ := rcx_did (dd := dd) hP hkn z0 hHC hlc hno (tb := fun z => (nx + j, rc.outs (out z)) :: tb) (hq z0).2.2.2.2.1 (hin z0) (by rw [(hq z0).1]; exact hlt) hX hj hjX hpre hI hsz d1 hgn (fun z => (hcsz z).1) tb_c (fun z => (hcsz z).2) rfl fb k fs r
        have hch := (hq z).2.2.2.2.1
        have hIz := inv_chain (hq z0).2.2.2.2.1 hch (by rw [(hq z0).1, (hq z).1]) (by rw [(hq z0).2.1, (hq z).2.1]) hX (fun i hi => agree z i (hX.lt i hi) (fun e => hXc (e ▸ hi)) (by
          cases hT0 : inT T (m + j) (m + i) with
          | false => rfl
          | true => exact absurd (hX.down j i hi hj hT0) hXc)) hI
        rw [(heq z).2] at a2 a9
        have hI2 := inv_step (dd := dd) hB hch (hin z) hX hj hjX hpre hIz hsz (fun i hi => hi) a2 a3
        rw [hdst z, d4] at hI2
        refine ⟨β1, w1, v, a2.le, .inr ⟨.inr rfl, z, B', K', a1, a4, a5, ?_⟩, ?_⟩
        · show Inv b nx K (q z).1 (q z).2.1 (q z).2.2 ro B' (fun i => X i ∨ i = j) β1 (Act.put ⟨tmps, dd⟩ ((q z0).2.2 j).dst v).tmps w1
          rw [d4]
          refine inv_base hI2 (fun t k' s bl hL hl hlive hb1 => ?_) (fun bl o' h => a4.keep bl o' h (fun h => h)) a8 a6 a5
          rcases lastH_after (hin z) hX hj hjX hL with ⟨g1, rfl⟩ | ⟨g1, g2⟩
          · obtain ⟨o', cs', e1, e2, ⟨e3, e4⟩, e5, e6⟩ := hch.step j hj
            have hg := hmod_get e6 t
            unfold hmodV at hg
            rw [hl] at hg
            unfold DR.mod at g1
            rw [wkeys_mem] at g1
            cases hw : hget t ((q z).2.2 j).wh with
            | none =>
              rw [hw] at g1 hg
              simp only at hg
              rcases g1 with ⟨_, g1⟩ | g1
              · cases g1
              · rw [if_pos g1] at hg; cases hg
            | some so =>
              rw [hw] at hg
              injection hg with hg; subst hg
              exact a7 t s bl hw hlive hb1
          · obtain ⟨bl', o', q1, q2, q3, _⟩ := hIz.H t k' s g2 hl hlive
            have e := a2.le _ _ q1
            rw [hb1] at e; injection e with e; subst e
            refine a9 bl o' q2 q3 (fun t' s' m1 m2 m3 m4 => ?_)
            rcases a2.sub t' m1 with h5 | h5
            · obtain ⟨cc, _, rfl⟩ := h5
              rw [inv_fresh hX hj hjX hIz cc] at m4; cases m4
            · obtain ⟨kk, k1, k2⟩ := read_heap hch (hin z) hX hj hjX hpre h5
              exact hIz.A t' kk s' t k' s k1 (by rw [k2]; exact m2) g2 hl m3 hlive (fun e => g1 (e ▸ m1)) (m4.trans q1.symm)
        · show Steps P _ (lone (fb.atR (Act.put ⟨tmps, dd⟩ ((q z0).2.2 j).dst v) (.inRegion ops r :: k)) fs w1)
          rw [d4]; exact a10
      · obtain ⟨β1, w1, v, a1, a2, a3⟩ := other z0 B hB rfl hkn hI hjc
        exact ⟨β1, w1, v, a1, .inl ⟨fun h => h.elim hXc (fun e => hjc e.symm), a2⟩, a3⟩
    · have hjc : j ≠ c := fun e => hjX (e ▸ hXc)
      obtain ⟨β1, w1, v, a1, a2, a3⟩ := other z B' hF.ok hpin (fun bb o e => hF.le bb o (hF.old bb o e (fun h => h))) hI hjc
      exact ⟨β1, w1, v, a1, .inr ⟨.inl hXc, z, B', K', hψ, hF, hpin, a2⟩, a3⟩
  · rintro β tmps w (⟨h1, _⟩ | ⟨_, z, B', K', h1, h2, h3, hI⟩)
    · exact absurd hcb h1
    · obtain ⟨g1, g2⟩ := inv_all (hq z).2.2.2.2.1 hI
      rw [(hq z).2.2.1] at g1
      rw [(hq z).2.2.2.1] at g2
      exact ⟨sl' z, hp' z, B', nx + b * K, h2.kd, g1, g2, fun hlt => by rw [← (hq z).2.2.1]; exact chain_lt (hq z).2.2.2.2.1 (by rw [(hq z).1]; exact hlt) b (Nat.le_refl _), h z B' K' h1 h2 h3⟩
end
end Sx
end
section
namespace Sx
open Go
section
variable {P : Program} {ro : Hp} {B : Base} {f : FuncId} {R : Ending → World → Prop}
/-- Whether a number is in a set: a map whose values are all true. -/
theorem run_mbool {q : IntKind} {h : Int → Bool} {fn : FId} {n : Nat} {sl sl' : Slots} {ops : Array Oper} {i0 : Nat} {o : Oper} {cur : List Oper} {tl : Option (List Nat)} {k : List SI} {rest : List SFr} {hp : Hp} {nx i : Nat} {t et : TypeId} {x ix : Operand} {cs0 cs1 : List Prop} {a : Int} {rr : Option IntKind}
    (hi : hget i hp = some (.map q h (.any fun _ => .tt))) (ho : o.op = .lookup t x ix false) (hgd : guardIn ops sl o = some .run) (hx : evs sl x = some (cs0, .mp i)) (hc0 : conj cs0) (hix : evs sl ix = some (cs1, .int q a)) (hc1 : conj cs1) (hm : mapIn P t = some (q, et, rr)) (hz : zeroIn P et = some .ff)
    (hput : put o.dst (.sb (h a)) n sl = some sl') (hr : Run P ro B f R ⟨⟨fn, n, sl', .reg ops (i0 + 1) cur tl :: k⟩, rest, hp, nx⟩) :
    Run P ro B f R ⟨⟨fn, n, sl, .reg ops i0 (o :: cur) tl :: k⟩, rest, hp, nx⟩ := by
  refine run_op hr hput ?_
  intro β w tmps b k' fs r dd hn hsl hlt hs hk hop
  have hw := guard_rel hgd hn hsl hlt
  have hrho : Rho β sl (Act.eval ⟨tmps, dd⟩) := ⟨hsl, fun _ => rfl, fun _ => rfl⟩
  obtain ⟨b0, hβ, hv⟩ := evs_rel hrho hx (all_conj hc0)
  have hxi := evs_rel hrho hix (all_conj hc1)
  obtain ⟨b', ob, k1, k2, k3, k4, k5⟩ := hs.own _ _ hi trivial
  rw [hβ] at k1; injection k1 with k1; subst k1
  obtain ⟨es, clock, rfl, g⟩ := k4
  obtain ⟨kt, hu, hkt⟩ := mapIn_spec hm
  obtain ⟨fa, g1, g2, g3⟩ := find_run (P := P) (w := w) hkt g a
  obtain ⟨zv, z1, z2⟩ := zeroIn_run (P := P) hz β w
  have z2 : zv = .bool false := z2
  subst z2
  have key : (Instr.lookup t (.map (some b0)) (.int q a) false).run P w = .ok (.bool (h a)) w := by
    cases ha : h a with
    | true =>
      obtain ⟨j, e, rfl, _, _, he⟩ := g2 ha
      have he : e.val = .bool true := he
      simp only [Instr.lookup, Sem.run_bind, run_underlying hu, Result.andThen, MapKept.run_getObj_map k3, Sem.run_pure, MapKept.run_checkKey (k := .int q a) hkt rfl, g1, he]
      rfl
    | false =>
      obtain ⟨rfl, _⟩ := g3 ha
      simp only [Instr.lookup, Sem.run_bind, run_underlying hu, Result.andThen, MapKept.run_getObj_map k3, Sem.run_pure, MapKept.run_checkKey (k := .int q a) hkt rfl, g1, z1]
      rfl
  refine ⟨β, w, .bool (h a), Env.le_refl _, hs, rfl, .one (op_value hop hw ?_)⟩
  simp only [execOp, ho, Sem.run_bind]
  rw [show (Act.eval ⟨tmps, dd⟩ x) = .map (some b0) from hv, show (Act.eval ⟨tmps, dd⟩ ix) = .int q a from hxi]
  simp only [key, Result.andThen]
  rfl
end
end Sx
end
