/- Package extent alone: what each call makes of extents that are kept. Conditions: as each theorem says. -/
import Derived.Test.YtcfifbpkngplmaaXaq
set_option linter.unusedSimpArgs false
set_option linter.unusedVariables false
namespace Sx
open Go Go.Proofs
set_option maxRecDepth 100000
set_option pp.deepTerms true
set_option pp.maxSteps 10000000
/-- The extents are kept and lie as told. -/
structure PX (J K : Kn) (s : XSt) (z : XZ) (l : List Int) : Prop where
  jk : Kle J K
  p : PInv s l
  x : XOK J K s z nobody
structure PSt where
  s : XSt
  z : XZ
  l : List Int
theorem PX.froz {J K : Kn} {s : XSt} {z : XZ} {l : List Int} (h : PX J K s z l) (a : Int) (ha : s.h a = true) : Froz K (z.V a) (s.n a) 1 (urow (s.u a)) := (h.x.rows a ha (fun q => q)).froz
/-- What Look returns. -/
def lkS (s : XSt) (id q : Int) : Int × Bool × Int :=
  if q < 0 ∨ id < 1 ∨ 1024 < id then (0, false, 2)
  else if s.h id = false then (0, false, 9)
  else if s.sz id ≤ q then (0, false, 3)
  else if s.u id (q / s.un).toNat = 0 then (0, false, 0)
  else ((s.u id (q / s.un).toNat - 1) * s.un + q % s.un, true, 0)
theorem lk_is {s : XSt} {id q : Int} (h : (lkS s id q).2.1 = true) : 0 ≤ q ∧ 1 ≤ id ∧ id ≤ 1024 ∧ s.h id = true ∧ q < s.sz id ∧ s.u id (q / s.un).toNat ≠ 0 ∧ (lkS s id q).2.2 = 0 := by
  unfold lkS at h ⊢
  split at h
  · cases h
  rename_i h1
  rw [if_neg h1]
  split at h
  · cases h
  rename_i h2
  rw [if_neg h2]
  split at h
  · cases h
  rename_i h3
  rw [if_neg h3]
  split at h
  · cases h
  rename_i h4
  rw [if_neg h4]
  exact ⟨by omega, by omega, by omega, by simpa using h2, by omega, h4, rfl⟩
theorem lk_hck {K : Kn} {s : XSt} {l : List Int} (h : PInv s l) (z : XZ) (hV : ∀ a, s.h a = true → Froz K (z.V a) (s.n a) 1 (urow (s.u a))) (id q : Int) :
    HCK Try.prog K 15 [.ptr 0 0, i64 id, i64 q] (hpX s z) [] 2 (fun _ : Unit => True) (fun _ => ⟨.tup [i64 (lkS s id q).1, .sb (lkS s id q).2.1, i64 (lkS s id q).2.2], hpX s z, 2⟩) := by
  have hu := h.u0
  by_cases g0 : q < 0
  · have e : lkS s id q = (0, false, 2) := by unfold lkS; rw [if_pos (.inl g0)]
    rw [e]; exact hck_of_hc (look_neg s z hu id q g0)
  by_cases h1 : id < 1
  · have e : lkS s id q = (0, false, 2) := by unfold lkS; rw [if_pos (.inr (.inl h1))]
    rw [e]; exact hck_of_hc (look_lo s z hu id q (by omega) h1)
  by_cases h2 : 1024 < id
  · have e : lkS s id q = (0, false, 2) := by unfold lkS; rw [if_pos (.inr (.inr h2))]
    rw [e]; exact hck_of_hc (look_hi s z hu id q (by omega) (by omega) h2)
  have e1 : ¬ (q < 0 ∨ id < 1 ∨ 1024 < id) := by omega
  cases hh : s.h id with
  | false =>
    have e : lkS s id q = (0, false, 9) := by unfold lkS; rw [if_neg e1, if_pos hh]
    rw [e]; exact hck_of_hc (look_none s z hu id q (by omega) (by omega) (by omega) hh)
  | true =>
    have e2 : ¬ s.h id = false := by rw [hh]; decide
    by_cases g1 : s.sz id ≤ q
    · have e : lkS s id q = (0, false, 3) := by unfold lkS; rw [if_neg e1, if_neg e2, if_pos g1]
      rw [e]; exact hck_of_hc (look_range s z hu id q (by omega) (by omega) (by omega) hh g1)
    obtain ⟨z1, z2, z3⟩ := h.sz id hh
    have hut := h.ut
    have hqn := h.qn hh (q := q) (by omega) (by omega)
    obtain ⟨b1, b2, b3⟩ := h.hf hh (q / s.un).toNat
    by_cases g2 : s.u id (q / s.un).toNat = 0
    · have e : lkS s id q = (0, false, 0) := by unfold lkS; rw [if_neg e1, if_neg e2, if_neg g1, if_pos g2]
      rw [e]; exact look_zero K s z hu id q (by omega) (by omega) hh (by omega) (by omega) (by omega) hqn (hV id hh) g2
    · have e : lkS s id q = ((s.u id (q / s.un).toNat - 1) * s.un + q % s.un, true, 0) := by unfold lkS; rw [if_neg e1, if_neg e2, if_neg g1, if_neg g2]
      rw [e]; exact look_at K s z hu id q (by omega) (by omega) hh (by omega) (by omega) (by omega) hqn (hV id hh) (by omega) b3 b2
/-- After a call that leaves the rows as they are. -/
structure PA (J K : Kn) (s : XSt) (l : List Int) (y : PSt) (K' : Kn) (J' : Kn) : Prop where
  ev : Ev J K J' K'
  p : PX J' K' y.s y.z y.l
  un : y.s.un = s.un
  tot : y.s.tot = s.tot
  len : y.l.length ≤ l.length + 1
theorem pa_same {J K : Kn} {s : XSt} {z : XZ} {l : List Int} (h : PX J K s z l) : PA J K s l ⟨s, z, l⟩ K J := ⟨Ev.refl h.jk, h, rfl, rfl, by show l.length ≤ l.length + 1; omega⟩
theorem create_px {J K : Kn} {s : XSt} {z : XZ} {l : List Int} (h : PX J K s z l) (id c : Int) :
    HCX Try.prog K M0 11 [.ptr 0 0, i64 id, i64 c] (hpX s z) [] 2 (fun (y : PSt × Int) K' => (∃ J', PA J K s l y.1 K' J') ∧ (s.h id = true → y.1.s = s)) (fun y => ⟨i64 y.2, hpX y.1.s y.1.z, 2⟩) := by
  rcases create_both h.p z id c with ⟨no, h1, h2, h3⟩ | ⟨h1, h2, h3, h4, hh⟩
  · exact hcx_mono (hcx_of_hc h3) (fun _ => (⟨s, z, l⟩, no)) (fun _ K' e => ⟨⟨J, by rw [e.2]; exact pa_same h⟩, fun _ => rfl⟩) (fun _ => rfl)
  have u0 := h.p.u0
  have u1 := h.p.u1
  have ut : s.un * s.tot ≤ 16777216 := by have := h.p.ut; omega
  have hpt := parts_bd h.p.u0 h3 (by have := h.p.ut; omega)
  have hid : id ∉ l := fun e => by rw [(h.p.k.2 id).1 e] at hh; cases hh
  refine hcx_mono (create_ok K s z u0 (by omega) h.p.ut0 ut id c h1 h2 h3 h4 hh hpt.1 (by omega)) (fun y => (⟨crS s id c, ⟨iIns z.V id (.slice (some ⟨y.1, 0, none⟩) (parts s.un c) y.2), iIns z.blk id y.1, z.vF⟩, insF id l⟩, 0)) ?_ (fun _ => rfl)
  rintro ⟨b, room⟩ K2 ⟨y1, y2, y3, cc, y4, y5, y6⟩
  have hJb : J b = none := by
    cases e : J b with
    | none => rfl
    | some o => rw [h.jk _ _ e] at y1; cases y1
  have hk12 : Kle K K2 := fun x o e => by
    rw [y2 x (by rintro rfl; rw [show K _ = none from y1] at e; cases e)]; exact e
  have hE2 : Ev J K J K2 := ⟨fun _ _ h => h, fun x o e => hk12 x o (h.jk x o e), fun _ _ h => h, hk12⟩
  have hnb : ∀ a, s.h a = true → z.blk a ≠ b := fun a ha e => by
    have := (h.x.rows a ha (fun q => q)).some
    rw [e] at this
    exact this y1
  refine ⟨⟨J, hE2, ⟨hE2.jk, cr_inv h.p h1 h2 h3 h4 hh, ⟨h.x.vF, fun a ha _ => ?_, fun a ha => ?_, fun a ha => ?_, fun a a' ha ha' e => ?_⟩⟩, rfl, rfl, by show (insF id l).length ≤ _; rw [insF_len]; omega⟩, fun q => by rw [hh] at q; cases q⟩
  · show URow K2 (iIns z.V id _ a) (iIns z.blk id b a) (iIns s.n id _ a) (iIns s.u id _ a)
    rcases hIns_or ha with rfl | ⟨e, g⟩
    · rw [iIns_self, iIns_self, iIns_self, iIns_self]
      exact ⟨room, cc, rfl, y3, y4, y5, y6⟩
    · rw [iIns_ne _ _ e, iIns_ne _ _ e, iIns_ne _ _ e, iIns_ne _ _ e]
      exact (h.x.rows a g (fun q => q)).keep hE2.keep
  · show ∃ room', iIns z.V id _ a = .slice (some ⟨iIns z.blk id b a, 0, none⟩) (iIns s.n id _ a) room' ∧ iIns s.n id _ a ≤ room'
    rcases hIns_or ha with rfl | ⟨e, g⟩
    · rw [iIns_self, iIns_self, iIns_self]
      exact ⟨room, rfl, y3⟩
    · rw [iIns_ne _ _ e, iIns_ne _ _ e, iIns_ne _ _ e]
      exact h.x.form a g
  · show J (iIns z.blk id b a) = none
    rcases hIns_or ha with rfl | ⟨e, g⟩
    · rw [iIns_self]; exact hJb
    · rw [iIns_ne _ _ e]; exact h.x.mt a g
  · have e : iIns z.blk id b a = iIns z.blk id b a' := e
    rcases hIns_or ha with rfl | ⟨n1, g1⟩ <;> rcases hIns_or ha' with rfl | ⟨n2, g2⟩
    · rfl
    · rw [iIns_self, iIns_ne _ _ n2] at e
      exact absurd e.symm (hnb a' g2)
    · rw [iIns_self, iIns_ne _ _ n1] at e
      exact absurd e (hnb a g1)
    · rw [iIns_ne _ _ n1, iIns_ne _ _ n2] at e
      exact h.x.inj a a' g1 g2 e
/-- After a call that changes one row. -/
structure PB (s : XSt) (z : XZ) (l : List Int) (id : Int) (y : PSt) (J' : Kn) : Prop where
  p : PInv y.s y.l
  vF : Froz J' y.z.vF y.s.F.length 1 (nrow y.s.F)
  V : y.z.V = z.V
  blk : y.z.blk = z.blk
  n : y.s.n = s.n
  u : ∀ a, a ≠ id → y.s.u a = s.u a
  h : ∀ a, y.s.h a = true → s.h a = true
  un : y.s.un = s.un
  tot : y.s.tot = s.tot
  len : y.l.length ≤ l.length
theorem px_done {J K J5 K5 K6 : Kn} {s : XSt} {z : XZ} {l : List Int} {id : Int} {y : PSt} (h : PX J K s z l) (hh : s.h id = true) (hb : PB s z l id y J5) (hE : Ev J (offK K (z.blk id)) J5 K5) {c : Array Value} (h6 : K6 (z.blk id) = some (.cells c 3 (0, 0))) (hc : s.n id ≤ c.size) (hg : ∀ i, i < s.n id → ∃ u, c[i]? = some u ∧ Rel Env.nil (urow (y.s.u id) i 0) u) (h65 : ∀ x, x ≠ z.blk id → K6 x = K5 x) (hn : J5 (z.blk id) = none) :
    PX J5 K6 y.s y.z y.l := by
  have hmt : ∀ a, s.h a = true → J5 (z.blk a) = none := fun a ha => by
    by_cases e : a = id
    · rw [e]; exact hn
    · have hne : z.blk a ≠ z.blk id := fun q => e (h.x.inj a id ha hh q)
      refine hE.mt _ ?_ (h.x.mt a ha)
      rw [offK_of hne]; exact (h.x.rows a ha (fun q => q)).some
  refine ⟨fun x o e => ?_, hb.p, ⟨hb.vF, fun a ha _ => ?_, fun a ha => ?_, fun a ha => ?_, fun a a' ha ha' e => ?_⟩⟩
  · rw [h65 x (fun q => by rw [q, hn] at e; cases e)]; exact hE.jk x o e
  · have ha' := hb.h a ha
    rw [hb.V, hb.blk, hb.n]
    by_cases e : a = id
    · subst e
      obtain ⟨room, f1, f2⟩ := h.x.form a hh
      exact ⟨room, c, f1, f2, h6, hc, hg⟩
    · have hne : z.blk a ≠ z.blk id := fun q => e (h.x.inj a id ha' hh q)
      rw [hb.u a e]
      refine (h.x.rows a ha' (fun q => q)).keep' ?_
      intro o ho
      rw [h65 _ hne]
      exact hE.keep _ _ (by rw [offK_of hne]; exact ho)
  · rw [hb.V, hb.blk, hb.n]; exact h.x.form a (hb.h a ha)
  · rw [hb.blk]; exact hmt a (hb.h a ha)
  · rw [hb.blk] at e; exact h.x.inj a a' (hb.h a ha) (hb.h a' ha') e
theorem delete_px {J K : Kn} {s : XSt} {z : XZ} {l : List Int} (h : PX J K s z l) (id : Int) :
    (∃ no, HC Try.prog 16 [.ptr 0 0, i64 id] (hpX s z) [] 2 (fun _ : Unit => True) (fun _ => ⟨.tup [.nilsl, i64 no], hpX s z, 2⟩)) ∨ (s.h id = true ∧ HCXq Try.prog J (fun β => β 2 = some (z.blk id)) 16 [.ptr 0 0, i64 id] (hpX s z ++ [(2, uRow (s.n id) (s.u id))]) [] 3 (fun (y : PSt × Value) J' => PB s z l id y.1 J') (fun y => ⟨.tup [.val y.2, i64 0], hpX y.1.s y.1.z ++ [(2, uRow (y.1.s.n id) (y.1.s.u id))], 3⟩)) := by
  rcases delete_both h.p z id with ⟨i, no, h1, h2, h3⟩ | ⟨h1, h2, hh⟩
  · exact .inl ⟨no, h3⟩
  refine .inr ⟨hh, ?_⟩
  have hP := h.p
  have u1 := hP.u1
  have hnb := hP.nb hh
  have hfl := hP.fl
  obtain ⟨k, hk, hkI, hkm⟩ := hP.at hh
  obtain ⟨room, hV, hrm⟩ := h.x.form id hh
  obtain ⟨d, hd⟩ : ∃ d : Nat → Bool, ∀ i, d i = decide (0 < s.u id i) := ⟨_, fun _ => rfl⟩
  have hd0 : ∀ i, d i = true → 0 < s.u id i := fun i hi => by rw [hd] at hi; simp at hi; omega
  have hP1 := drop_inv hP hh hd0
  have hz : ∀ q, (putS s id (dU (s.u id) d (s.n id)) s.nx (dF s.F (dL (s.u id) d (s.n id)))).u id q = 0 := fun q => by
    rw [putS_u, if_pos rfl]
    unfold dU
    split
    · rfl
    · rename_i hno
      rcases Nat.lt_or_ge q (s.n id) with g | g
      · have : ¬ 0 < s.u id q := fun e => hno ⟨g, by rw [hd]; simpa using e⟩
        have := (hP.ub id q hh).1
        omega
      · exact hP.uz id q hh g
  have hx := delete_ok J s z hP.u0 (by omega) id h1 h2 hh (s.n id) (s.u id) (z.blk id) room hV hrm h.x.vF (by omega) (lt_le hP.fs) (by omega) (hP.hf hh) d hd
  refine hcxq_mono hx (fun w => (⟨delS (putS s id (dU (s.u id) d (s.n id)) s.nx (dF s.F (dL (s.u id) d (s.n id)))) id, ⟨z.V, z.blk, w.1⟩, delL l k⟩, w.2)) (fun w K' e => ?_) (fun w => ?_)
  · exact ⟨del_inv hP1 hh hz hk hkI, e.1, rfl, rfl, rfl, fun a ha => by show (putS s id (dU (s.u id) d (s.n id)) s.nx (dF s.F (dL (s.u id) d (s.n id)))).u a = s.u a; rw [putS_u, if_neg ha], fun a h => (hDel_iff.1 h).2, rfl, rfl, by show (delL l k).length ≤ _; rw [delL_len hk]; omega⟩
  · have e : (delS (putS s id (dU (s.u id) d (s.n id)) s.nx (dF s.F (dL (s.u id) d (s.n id)))) id).u id = dU (s.u id) d (s.n id) := by
      show (putS s id (dU (s.u id) d (s.n id)) s.nx (dF s.F (dL (s.u id) d (s.n id)))).u id = _
      rw [putS_u, if_pos rfl]
    show Out.mk _ _ _ = Out.mk _ _ _
    rw [e]
    rfl
/-- What Drop leaves of a row. -/
def DropU (s : XSt) (id a c : Int) (y : PSt) : Prop := y.s.h = s.h ∧ y.s.sz = s.sz ∧ y.s.un = s.un ∧ ∀ q, y.s.u id q = s.u id q ∨ lies s.un a c (s.sz id) q = true
theorem drop_px {J K : Kn} {s : XSt} {z : XZ} {l : List Int} (h : PX J K s z l) (id a c : Int) (hc : c ≤ 9223372036854775807) :
    (∃ no, HC Try.prog 17 [.ptr 0 0, i64 id, i64 a, i64 c] (hpX s z) [] 2 (fun _ : Unit => True) (fun _ => ⟨.tup [.nilsl, i64 no], hpX s z, 2⟩)) ∨ (s.h id = true ∧ 0 ≤ a ∧ 0 ≤ c ∧ a + c ≤ s.sz id ∧ HCXq Try.prog J (fun β => β 2 = some (z.blk id)) 17 [.ptr 0 0, i64 id, i64 a, i64 c] (hpX s z ++ [(2, uRow (s.n id) (s.u id))]) [] 3 (fun (y : PSt × Value) J' => PB s z l id y.1 J' ∧ DropU s id a c y.1) (fun y => ⟨.tup [.val y.2, i64 0], hpX y.1.s y.1.z ++ [(2, uRow (y.1.s.n id) (y.1.s.u id))], 3⟩)) := by
  rcases drop_both h.p z id a c hc with ⟨no, h1, h2, h3⟩ | ⟨h1, h2, hh, g1, g2, g3, g4⟩
  · exact .inl ⟨no, h3⟩
  refine .inr ⟨hh, g1, g2, by omega, ?_⟩
  have hP := h.p
  have u1 := hP.u1
  have hnb := hP.nb hh
  have hfl := hP.fl
  have hut := hP.ut
  obtain ⟨z1, z2, z3⟩ := hP.sz id hh
  obtain ⟨room, hV, hrm⟩ := h.x.form id hh
  obtain ⟨d, hd⟩ : ∃ d : Nat → Bool, ∀ i, d i = (decide (0 < s.u id i) && lies s.un a c (s.sz id) i) := ⟨_, fun _ => rfl⟩
  have hd0 : ∀ i, d i = true → 0 < s.u id i := fun i hi => by rw [hd] at hi; simp at hi; omega
  have hP1 := drop_inv hP hh hd0
  have hx := drop_ok J s z hP.u0 (by omega) id a c h1 h2 hh (by omega) g1 g2 g3 (by rw [Int.min_eq_left g3]; exact g4) (s.n id) (s.u id) (z.blk id) room hV hrm h.x.vF (by omega) (lt_le hP.fs) (by omega) (hP.hf hh) d hd
  have e0 : (putS s id (dU (s.u id) d (s.n id)) s.nx (dF s.F (dL (s.u id) d (s.n id)))).u id = dU (s.u id) d (s.n id) := by rw [putS_u, if_pos rfl]
  refine hcxq_mono hx (fun w => (⟨putS s id (dU (s.u id) d (s.n id)) s.nx (dF s.F (dL (s.u id) d (s.n id))), ⟨z.V, z.blk, w.1⟩, l⟩, w.2)) (fun w K' e => ?_) (fun w => ?_)
  · refine ⟨⟨hP1, e.1, rfl, rfl, rfl, fun a ha => by show (putS s id _ _ _).u a = s.u a; rw [putS_u, if_neg ha], fun a h => h, rfl, rfl, Nat.le_refl _⟩, rfl, rfl, rfl, fun q => ?_⟩
    show (putS s id _ _ _).u id q = _ ∨ _
    rw [e0]
    unfold dU
    split
    · rename_i hq
      have := hq.2
      rw [hd] at this
      simp at this
      exact .inr this.2
    · exact .inl rfl
  · show Out.mk _ _ _ = Out.mk _ _ _
    rw [e0]
    rfl
/-- What Place leaves of a row. -/
def PlaceU (s : XSt) (id : Int) (y : PSt) : Prop := y.s.h = s.h ∧ y.s.sz = s.sz ∧ y.s.un = s.un ∧ ∀ q, s.u id q ≠ 0 → y.s.u id q = s.u id q
theorem place_px {J K : Kn} {s : XSt} {z : XZ} {l : List Int} (h : PX J K s z l) (id q : Int) :
    (∃ at' no, HCK Try.prog K 18 [.ptr 0 0, i64 id, i64 q] (hpX s z) [] 2 (fun _ : Unit => True) (fun _ => ⟨.tup [i64 at', .ff, i64 no], hpX s z, 2⟩)) ∨ (s.h id = true ∧ ∃ at', HCXq Try.prog J (fun β => β 2 = some (z.blk id)) 18 [.ptr 0 0, i64 id, i64 q] (hpX s z ++ [(2, uRow (s.n id) (s.u id))]) [] 3 (fun (y : PSt) J' => PB s z l id y J' ∧ PlaceU s id y) (fun y => ⟨.tup [i64 at', .tt, i64 0], hpX y.s y.z ++ [(2, uRow (y.s.n id) (y.s.u id))], 3⟩)) := by
  rcases place_both h.p z h.jk h.x.vF h.froz id q with ⟨at', is', no, h1, h2, h3⟩ | ⟨h1, h2, h3⟩ | ⟨h1, x, hm⟩
  · exact .inl ⟨at', no, h3⟩
  · exact .inl ⟨0, 7, h3⟩
  obtain ⟨nx', F', ho⟩ := plOut hm
  obtain ⟨hx0, hxo, hlow, hP'⟩ := pl_inv h.p hm ho
  obtain ⟨room, hV, hrm⟩ := h.x.form id hm.hh
  refine .inr ⟨hm.hh, x * s.un + q % s.un, hcxq_mono (place_q h.p z h.x.vF id q x nx' F' hm ho (z.blk id) room hV hrm) (fun w => ⟨putS s id (upU (s.u id) (q / s.un).toNat (x + 1)) nx' F', ⟨z.V, z.blk, w⟩, l⟩) (fun w K' e => ?_) (fun w => ?_)⟩
  · refine ⟨⟨hP', e, rfl, rfl, rfl, fun a ha => by show (putS s id _ _ _).u a = s.u a; rw [putS_u, if_neg ha], fun a h => h, rfl, rfl, Nat.le_refl _⟩, rfl, rfl, rfl, fun p hp => ?_⟩
    show (putS s id _ _ _).u id p = _
    rw [putS_u, if_pos rfl]
    unfold upU
    rw [if_neg]
    intro e
    rw [e] at hp
    exact hp hm.z0
  · have e0 : (putS s id (upU (s.u id) (q / s.un).toNat (x + 1)) nx' F').u id = upU (s.u id) (q / s.un).toNat (x + 1) := by rw [putS_u, if_pos rfl]
    show Out.mk _ _ _ = Out.mk _ _ _
    rw [e0]
    rfl
/-- Look answers as before: after Place. -/
theorem lk_place {s : XSt} {id q : Int} {y : PSt} (h : PlaceU s id y) (hw : (lkS s id q).2.1 = true) : lkS y.s id q = lkS s id q := by
  obtain ⟨h1, h2, h3, h4⟩ := h
  obtain ⟨_, _, _, _, _, g, _⟩ := lk_is hw
  unfold lkS
  rw [h1, h2, h3, h4 _ g]
/-- Look answers as before: after a Drop elsewhere. -/
theorem lk_drop {s : XSt} {l : List Int} (hP : PInv s l) {id q a c : Int} {y : PSt} (h : DropU s id a c y) (hw : (lkS s id q).2.1 = true) (hn : q < a ∨ a + c ≤ q) : lkS y.s id q = lkS s id q := by
  obtain ⟨h1, h2, h3, h4⟩ := h
  obtain ⟨g0, _, _, gh, g1, g, _⟩ := lk_is hw
  have hu := hP.u0
  obtain ⟨d0, d1, d2, d3⟩ := div_nn g0 hu
  have e : y.s.u id (q / s.un).toNat = s.u id (q / s.un).toNat := by
    rcases h4 (q / s.un).toNat with e | e
    · exact e
    · exfalso
      unfold lies at e
      simp only [Bool.and_eq_true, decide_eq_true_eq] at e
      rw [show (((q / s.un).toNat : Nat) : Int) = q / s.un by omega] at e
      obtain ⟨e1, e2⟩ := e
      have hq := Int.emod_add_mul_ediv q s.un
      have hc : s.un * (q / s.un) = q / s.un * s.un := Int.mul_comm _ _
      have hs : (q / s.un + 1) * s.un = q / s.un * s.un + s.un := by rw [Int.add_mul, Int.one_mul]
      rw [hs] at e2
      omega
  unfold lkS
  rw [h1, h2, h3, e]
end Sx
