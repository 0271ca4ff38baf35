/- The operations of the last text follow the model's. No condition. -/
import Derived.Test.YtpjabkjacldgcaaEng7
namespace Sx
open Go

theorem zero_run {P : Program} {t : TypeId} {z : List SV} (h : zeroCellsIn P t = some z) (β : Env) (w : World) : ∃ i v, P.info? t = some i ∧ i.zero = some v ∧ (zeroValue t).run P w = .ok v w ∧ RelL β z v.cells.toList := by
  unfold zeroCellsIn at h
  split at h
  · rename_i zz hzz
    cases hz : zz.cells.all storable with
    | false => rw [hz] at h; cases h
    | true =>
    rw [hz] at h
    injection h with h; subst h
    unfold zeroIn at hzz
    split at hzz
    · rename_i i hi
      split at hzz
      · rename_i v hv
        have hr := ofVal_rel β hzz
        refine ⟨i, v, hi, hv, by simp [zeroValue, typeInfo, hi, hv, Result.andThen], ?_⟩
        refine cells_rel hr ?_ ?_
        · rintro g y rfl; simp [SV.cells, storable] at hz
        · rintro rfl; simp [SV.cells, storable] at hz
      · cases hzz
    · cases hzz
  · cases h

theorem placesIn_spec {P : Program} : ∀ {fs : List Field} {l : List (Nat × Nat)}, placesIn P fs = some l → fs.mapM (fun f => (P.info? f.type).map fun i => (f.offset, i.size)) = some l
  | [], l, h => by injection h with h; subst h; rfl
  | f :: r, l, h => by
    simp only [placesIn] at h
    split at h
    · rename_i s l' h1 h2
      injection h with h; subst h
      have ih := placesIn_spec h2
      unfold sizeIn at h1
      split at h1
      · rename_i i hi
        injection h1 with h1; subst h1
        simp [List.mapM_cons, hi, ih]
      · cases h1
    · cases h

theorem sfill_ok : ∀ {parts : List (Nat × SV)} {place : Nat → Option (Nat × Nat)} {z r : List SV}, sfill place z parts = some r → z.all storable = true → r.all storable = true
  | [], place, z, r, h, hz => by injection h with h; subst h; exact hz
  | (i, v) :: rest, place, z, r, h, hz => by
    simp only [sfill] at h
    split at h
    · cases hb : (Nat.beq v.cells.length _ && v.cells.all storable) with
      | false => rw [hb] at h; cases h
      | true =>
        rw [hb] at h
        simp only [cond_true] at h
        simp only [Bool.and_eq_true] at hb
        split at h
        · rename_i r' hset
          obtain ⟨rfl, hle⟩ := setAt_spec hset
          refine sfill_ok h ?_
          rw [List.all_append, List.all_append, Bool.and_eq_true, Bool.and_eq_true]
          refine ⟨⟨?_, hb.2⟩, ?_⟩
          · rw [List.all_eq_true] at hz ⊢; exact fun x hx => hz x (List.mem_of_mem_take hx)
          · rw [List.all_eq_true] at hz ⊢; exact fun x hx => hz x (List.mem_of_mem_drop hx)
        · cases h
    · cases h

theorem buildV_run {P : Program} {β : Env} {w : World} {t : TypeId} {l : List (Nat × SV)} {r : List SV} (h : buildV P t l = some r) {ps : Array (Nat × Value)} (hp : RelP β l ps.toList) :
    ∃ c : Array Value, (Instr.build t ps).run P w = .ok (.agg c) w ∧ RelL β r c.toList := by
  unfold buildV at h
  split at h
  · rename_i n e hu
    split at h
    · rename_i z s hzz hs
      obtain ⟨i, v, hi, hv, _, hzr⟩ := zero_run hzz β w
      obtain ⟨c, hc1, hc2⟩ := sfill_rel h hzr hp
      refine ⟨c, run_build w t ps c ?_, hc2⟩
      unfold sizeIn at hs
      split at hs
      · rename_i ie hie
        injection hs with hs; subst hs
        simp only [Program.built, hi, hu, hv, hie]
        simpa using hc1
      · cases hs
    · cases h
  · rename_i fields hu
    split at h
    · rename_i z places hzz hpl
      obtain ⟨i, v, hi, hv, _, hzr⟩ := zero_run hzz β w
      obtain ⟨c, hc1, hc2⟩ := sfill_rel h hzr hp
      refine ⟨c, run_build w t ps c ?_, hc2⟩
      simp only [Program.built, hi, hu, hv, placesIn_spec hpl]
      simpa using hc1
    · cases h
  · cases h

theorem bound_run {P : Program} {w : World} {β : Env} {x : SV} {top d N : Nat} {cs : List Prop} (h : bound (some x) top d = some (cs, N)) (hc : All cs) {v : Value} (hr : Rel β x v) (code : BoundsCode) :
    (Instr.sliceBound v top code).run P w = .ok N w ∧ N ≤ top := by
  unfold bound at h
  split at h
  · rename_i e; cases e
  · rename_i k n e
    injection e with e; subst e
    simp only [Option.some.injEq, Prod.mk.injEq] at h
    obtain ⟨rfl, rfl⟩ := h
    simp only [Rel] at hr; subst hr
    have h0 : 0 ≤ n := hc.head
    have h1 : n ≤ top := hc.tail.head
    exact ⟨by simp [Instr.sliceBound, asIntOf, Result.andThen, h0, h1], by omega⟩
  · cases h

theorem bound_le {x : Option SV} {top d N : Nat} {cs : List Prop} (h : bound x top d = some (cs, N)) (hc : All cs) (hd : d ≤ top) : N ≤ top := by
  unfold bound at h
  split at h
  · simp only [Option.some.injEq, Prod.mk.injEq] at h; omega
  · simp only [Option.some.injEq, Prod.mk.injEq] at h
    obtain ⟨rfl, rfl⟩ := h
    have h0 := hc.head
    have h1 := hc.tail.head
    omega
  · cases h
def RelO (β : Env) : Option SV → Option Value → Prop
  | none, v => v = none
  | some s, v => ∃ u, v = some u ∧ Rel β s u
theorem evO_rel {β : Env} {sl : Slots} {ρ : Operand → Value} (hr : Rho β sl ρ) {x : Option Operand} {cs : List Prop} {l : Option SV} (h : evO sl x = some (cs, l)) (hc : All cs) : RelO β l (x.map ρ) := by
  unfold evO at h
  split at h
  · simp only [Option.some.injEq, Prod.mk.injEq] at h; obtain ⟨rfl, rfl⟩ := h; simp [RelO]
  · split at h
    · rename_i e1
      simp only [Option.some.injEq, Prod.mk.injEq] at h; obtain ⟨rfl, rfl⟩ := h
      exact ⟨_, rfl, evs_rel hr e1 hc⟩
    · cases h

theorem bounds_run {P : Program} {w : World} {β : Env} {lo hi mx : Option SV} {len cap M H L : Nat} {c1 c2 c3 : List Prop} (isS : Bool)
    (hm : bound mx cap cap = some (c1, M)) (hh : bound hi M len = some (c2, H)) (hl : bound lo H 0 = some (c3, L)) (h1 : All c1) (h2 : All c2) (h3 : All c3)
    (hk : (hi.isSome || mx.isNone) = true) (hlc : len ≤ cap) {vl vh vm : Option Value} (rl : RelO β lo vl) (rh : RelO β hi vh) (rm : RelO β mx vm) :
    (Instr.sliceBounds isS len cap vl vh vm).run P w = .ok (L, H, M) w ∧ L ≤ H ∧ H ≤ M ∧ M ≤ cap := by
  cases mx with
  | none =>
    simp only [RelO] at rm; subst rm
    simp only [bound, Option.some.injEq, Prod.mk.injEq] at hm
    obtain ⟨rfl, rfl⟩ := hm
    cases hi with
    | none =>
      simp only [RelO] at rh; subst rh
      simp only [bound, Option.some.injEq, Prod.mk.injEq] at hh
      obtain ⟨rfl, rfl⟩ := hh
      cases lo with
      | none =>
        simp only [RelO] at rl; subst rl
        simp only [bound, Option.some.injEq, Prod.mk.injEq] at hl
        obtain ⟨rfl, rfl⟩ := hl
        exact ⟨by simp [Instr.sliceBounds, Result.andThen], by omega, hlc, by omega⟩
      | some x =>
        obtain ⟨u, rfl, ru⟩ := rl
        obtain ⟨e, hle⟩ := bound_run (P := P) (w := w) hl h3 ru .sliceB
        exact ⟨by simp [Instr.sliceBounds, Result.andThen, e], by omega, hlc, by omega⟩
    | some y =>
      obtain ⟨u, rfl, ru⟩ := rh
      obtain ⟨e, hle⟩ := bound_run (P := P) (w := w) hh h2 ru (if isS then .sliceAcap else .sliceAlen)
      cases lo with
      | none =>
        simp only [RelO] at rl; subst rl
        simp only [bound, Option.some.injEq, Prod.mk.injEq] at hl
        obtain ⟨rfl, rfl⟩ := hl
        exact ⟨by simp [Instr.sliceBounds, Result.andThen, e], by omega, hle, by omega⟩
      | some x =>
        obtain ⟨u', rfl, ru'⟩ := rl
        obtain ⟨e', hle'⟩ := bound_run (P := P) (w := w) hl h3 ru' .sliceB
        exact ⟨by simp [Instr.sliceBounds, Result.andThen, e, e'], by omega, hle, by omega⟩
  | some z =>
    obtain ⟨u, rfl, ru⟩ := rm
    obtain ⟨e, hle⟩ := bound_run (P := P) (w := w) hm h1 ru (if isS then .slice3Acap else .slice3Alen)
    cases hi with
    | none => simp at hk
    | some y =>
      obtain ⟨u', rfl, ru'⟩ := rh
      obtain ⟨e', hle'⟩ := bound_run (P := P) (w := w) hh h2 ru' .slice3B
      cases lo with
      | none =>
        simp only [RelO] at rl; subst rl
        simp only [bound, Option.some.injEq, Prod.mk.injEq] at hl
        obtain ⟨rfl, rfl⟩ := hl
        exact ⟨by simp [Instr.sliceBounds, Result.andThen, e, e'], by omega, hle', by omega⟩
      | some x =>
        obtain ⟨u'', rfl, ru''⟩ := rl
        obtain ⟨e'', hle''⟩ := bound_run (P := P) (w := w) hl h3 ru'' .slice3C
        exact ⟨by simp [Instr.sliceBounds, Result.andThen, e, e', e''], by omega, hle', by omega⟩

/-- The lower bound as 'sliceV' takes it. -/
theorem low_bound {lo : Option SV} {H : Nat} {r : List Prop × SV} {c : List Prop} {f : SV} {g : Nat → SV}
    (h : (match lo with | none => some (c, f) | some (.int _ l) => some (c ++ [0 ≤ l, l ≤ (H : Int)], g l.toNat) | _ => none) = some r) :
    ∃ c3 L, bound lo H 0 = some (c3, L) ∧ (All r.1 → All c ∧ All c3) ∧ ((lo = none ∧ L = 0 ∧ r.2 = f) ∨ r.2 = g L) := by
  split at h
  · injection h with h; subst h; exact ⟨[], 0, rfl, fun hh => ⟨hh, All.nil⟩, .inl ⟨rfl, rfl, rfl⟩⟩
  · injection h with h; subst h; exact ⟨_, _, rfl, fun hh => ⟨hh.left, hh.right⟩, .inr rfl⟩
  · cases h

theorem bound_some {x : SV} {top d N : Nat} {cs : List Prop} (h : bound (some x) top d = some (cs, N)) : (∃ k n, x = .int k n ∧ cs = [0 ≤ n, n ≤ top] ∧ N = n.toNat) ∧ True := by
  unfold bound at h
  split at h
  · rename_i e; cases e
  · rename_i k n e
    injection e with e; subst e
    simp only [Option.some.injEq, Prod.mk.injEq] at h
    exact ⟨⟨k, n, rfl, h.1.symm, h.2.symm⟩, trivial⟩
  · cases h
theorem bound_le2 {x : SV} {top d N : Nat} {cs : List Prop} (h : bound (some x) top d = some (cs, N)) (hc : All cs) : N ≤ top := by
  obtain ⟨⟨k, n, rfl, rfl, rfl⟩, _⟩ := bound_some h
  have := hc.head
  have := hc.tail.head
  omega
theorem sliceV_run {P : Program} {w : World} {β : Env} {t : TypeId} {x s : SV} {lo hi mx : Option SV} {cs : List Prop} (h : sliceV P t x lo hi mx = some (cs, s)) (hc : All cs)
    {v : Value} {vl vh vm : Option Value} (hx : Rel β x v) (rl : RelO β lo vl) (rh : RelO β hi vh) (rm : RelO β mx vm) :
    ∃ u, (Instr.sliceAt t v vl vh vm).run P w = .ok u w ∧ Rel β s u := by
  unfold sliceV at h
  split at h
  · rename_i el i off s' sz len cap hu
    split at h
    · rename_i m hm
      cases hb : (Nat.beq m sz && (hi.isSome || mx.isNone)) with
      | false => rw [hb] at h; cases h
      | true =>
        rw [hb] at h
        simp only [cond_true] at h
        simp only [Bool.and_eq_true] at hb
        have e0 := beq_nat hb.1; subst e0
        split at h
        · rename_i c1 M e1
          split at h
          · rename_i c2 H e2
            obtain ⟨c3, L, e3, hcs, hres⟩ := low_bound (g := fun l => .sl i off (s' + l) m (H - l) (M - l)) h
            obtain ⟨b, o, hβ, room, rfl, hlc, hcr, ho⟩ := hx
            obtain ⟨h12, h3⟩ := hcs hc
            obtain ⟨M', c1', e1', hM', hMM, hMc⟩ : ∃ M' c1', bound mx room room = some (c1', M') ∧ All c1' ∧ M ≤ M' ∧ M ≤ cap := by
              cases mx with
              | none => simp only [bound, Option.some.injEq, Prod.mk.injEq] at e1; obtain ⟨_, rfl⟩ := e1; exact ⟨room, [], rfl, All.nil, hcr, Nat.le_refl _⟩
              | some y =>
                obtain ⟨q1, q2⟩ := bound_some e1
                obtain ⟨kk, x, rfl, rfl, rfl⟩ := q1
                have g1 := h12.left.head
                have g2 := h12.left.tail.head
                exact ⟨x.toNat, _, rfl, All.cons g1 (All.cons (by omega) All.nil), Nat.le_refl _, by omega⟩
            obtain ⟨H2, c2', e2', hH2, hHH⟩ : ∃ H2 c2', bound hi M' len = some (c2', H2) ∧ All c2' ∧ H2 = H := by
              cases hi with
              | none => simp only [bound, Option.some.injEq, Prod.mk.injEq] at e2; obtain ⟨_, rfl⟩ := e2; exact ⟨len, [], rfl, All.nil, rfl⟩
              | some y =>
                obtain ⟨q1, q2⟩ := bound_some e2
                obtain ⟨kk, x, rfl, rfl, rfl⟩ := q1
                have g1 := h12.right.head
                have g2 := h12.right.tail.head
                exact ⟨x.toNat, _, rfl, All.cons g1 (All.cons (by omega) All.nil), rfl⟩
            subst hHH
            have hHM : H2 ≤ M := by
              cases hi with
              | none =>
                simp only [bound, Option.some.injEq, Prod.mk.injEq] at e2; obtain ⟨_, rfl⟩ := e2
                have hmx : mx = none := by
                  cases mx with
                  | none => rfl
                  | some _ => simp at hb
                subst hmx
                simp only [bound, Option.some.injEq, Prod.mk.injEq] at e1; obtain ⟨_, rfl⟩ := e1
                exact hlc
              | some y => exact bound_le2 e2 h12.right
            obtain ⟨er, k1, k2, k3⟩ := bounds_run (P := P) (w := w) true e1' e2' e3 hM' hH2 h3 hb.2 (by omega) rl rh rm
            refine ⟨.slice (if M' = L then some ⟨b, o, none⟩ else some ⟨b, o + L * m, none⟩) (H2 - L) (M' - L), ?_, ?_⟩
            · simp only [Instr.sliceAt, Sem.run_bind, run_underlying hu, Result.andThen, Instr.slice, er, run_size hm, Sem.run_pure, Option.map_some, pt_add]
            · have main : Rel β (.sl i off (s' + L) m (H2 - L) (M - L)) (.slice (if M' = L then some ⟨b, o, none⟩ else some ⟨b, o + L * m, none⟩) (H2 - L) (M' - L)) := by
                refine ⟨b, if M' = L then o else o + L * m, hβ, M' - L, ?_, by omega, by omega, ?_⟩
                · split <;> rfl
                · intro hne
                  rw [if_neg (by omega), ho (by omega), Nat.add_mul]; omega
              rcases hres with ⟨_, rfl, hf⟩ | hg
              · simp only at hf; subst hf; simpa using main
              · simp only at hg; subst hg; exact main
          · cases h
        · cases h
    · cases h
  · rename_i el i off s' sz len ap hu
    split at h
    · rename_i m hm
      cases hb : (Nat.beq m sz && (hi.isSome || mx.isNone)) with
      | false => rw [hb] at h; cases h
      | true =>
        rw [hb] at h
        simp only [cond_true] at h
        simp only [Bool.and_eq_true] at hb
        have e0 := beq_nat hb.1; subst e0
        split at h
        · rename_i c2 H e2
          obtain ⟨base, room, rfl, g1, g2, g3, g4⟩ := hx
          have hlr : len ≤ room := by
            rcases Nat.eq_zero_or_pos len with q | q
            · omega
            · exact (g4 q).1
          have key : ∃ L c3 ap', s = .sq i off (s' + L) m (H - L) ap' ∧ bound lo H 0 = some (c3, L) ∧ All c2 ∧ All c3 ∧ ((mx = none ∧ ap' = .no) ∨ (∃ k x, mx = some (.int k x) ∧ x = (H : Int) ∧ ap' = .full)) := by
            split at h <;> first | exact (none_ne h).elim | skip
            all_goals
              simp only [Option.some.injEq, Prod.mk.injEq] at h
              obtain ⟨rfl, rfl⟩ := h
            · exact ⟨0, [], .no, by simp, rfl, hc, All.nil, .inl ⟨rfl, rfl⟩⟩
            · exact ⟨_, _, .no, rfl, rfl, hc.left, hc.right, .inl ⟨rfl, rfl⟩⟩
            · exact ⟨0, [], .full, by simp, rfl, hc.left, All.nil, .inr ⟨_, _, rfl, hc.right.head, rfl⟩⟩
            · exact ⟨_, _, .full, rfl, rfl, hc.left, hc.right.tail, .inr ⟨_, _, rfl, hc.right.head, rfl⟩⟩
          obtain ⟨L, c3, ap', rfl, e3, h2, h3, hap⟩ := key
          have hHl : H ≤ len := bound_le e2 h2 (Nat.le_refl _)
          have hLH : L ≤ H := bound_le e3 h3 (Nat.zero_le _)
          obtain ⟨M, c1, e1, h1, hHM, hMr, hMf⟩ : ∃ M c1, bound mx room room = some (c1, M) ∧ All c1 ∧ H ≤ M ∧ M ≤ room ∧ (ap' = .full → M = H) := by
            rcases hap with ⟨rfl, rfl⟩ | ⟨k, x, rfl, rfl, rfl⟩
            · exact ⟨room, [], rfl, All.nil, by omega, Nat.le_refl _, fun q => (by cases q)⟩
            · exact ⟨H, _, rfl, All.cons (by omega) (All.cons (by omega) All.nil), Nat.le_refl _, by omega, fun _ => rfl⟩
          obtain ⟨H2, c2', e2', hH2, hHH⟩ : ∃ H2 c2', bound hi M len = some (c2', H2) ∧ All c2' ∧ H2 = H := by
            cases hi with
            | none => simp only [bound, Option.some.injEq, Prod.mk.injEq] at e2; obtain ⟨_, rfl⟩ := e2; exact ⟨len, [], rfl, All.nil, rfl⟩
            | some y =>
              obtain ⟨q1, q2⟩ := bound_some e2
              obtain ⟨kk, x, rfl, rfl, rfl⟩ := q1
              have g1 := h2.head
              exact ⟨x.toNat, _, rfl, All.cons g1 (All.cons (by omega) All.nil), rfl⟩
          subst hHH
          obtain ⟨er, k1, k2, k3⟩ := bounds_run (P := P) (w := w) true e1 e2' e3 h1 hH2 h3 hb.2 hlr rl rh rm
          refine ⟨.slice (if M = L then base else base.map (·.add (L * m))) (H2 - L) (M - L), ?_, ?_⟩
          · simp only [Instr.sliceAt, Sem.run_bind, run_underlying hu, Result.andThen, Instr.slice, er, run_size hm, Sem.run_pure]
          · refine ⟨_, M - L, rfl, fun hn => ?_, fun hh => ?_, fun hh => ?_, fun hl => ?_⟩
            · have : base = none := by
                split at hn
                · exact hn
                · simpa using hn
              have := g1 this
              omega
            · subst hh
              rcases hap with ⟨_, q⟩ | ⟨_, _, _, _, q⟩ <;> cases q
            · have := hMf hh; omega
            · obtain ⟨g5, b, g6, g7, g8⟩ := g4 (by omega)
              refine ⟨by omega, b, g6, ?_, fun hh => ?_⟩
              · rw [if_neg (by omega), g7]
                simp only [Option.map_some, pt_add]
                rw [Nat.add_mul, Nat.add_assoc]
              · subst hh
                rcases hap with ⟨_, q⟩ | ⟨_, _, _, _, q⟩ <;> cases q
        · cases h
    · cases h
  · rename_i el hu
    split at h
    · rename_i m hm
      cases hb : (hi.isSome || mx.isNone) with
      | false => rw [hb] at h; cases h
      | true =>
        rw [hb] at h
        simp only [cond_true] at h
        split at h
        · rename_i c1 M e1
          split at h
          · rename_i c2 H e2
            split at h
            · rename_i c3 L e3
              simp only [Option.some.injEq, Prod.mk.injEq] at h
              obtain ⟨rfl, rfl⟩ := h
              simp only [Rel] at hx; subst hx
              have hM : M = 0 := by have := bound_le e1 hc.left.left (Nat.le_refl _); omega
              have hH : H = 0 := by have := bound_le e2 hc.left.right (by omega); omega
              subst hM hH
              obtain ⟨er, k1, k2, k3⟩ := bounds_run (P := P) (w := w) true e1 e2 e3 hc.left.left hc.left.right hc.right hb (Nat.le_refl _) rl rh rm
              refine ⟨.slice none 0 0, ?_, rfl⟩
              have hL : L = 0 := by omega
              subst hL
              simp [Instr.sliceAt, run_underlying hu, Result.andThen, Instr.slice, er, run_size hm]
            · cases h
          · cases h
        · cases h
    · cases h
  · rename_i n el i off hu
    split at h
    · rename_i m hm
      cases hb : (hi.isSome || mx.isNone) with
      | false => rw [hb] at h; cases h
      | true =>
        rw [hb] at h
        simp only [cond_true] at h
        split at h
        · rename_i c1 M e1
          split at h
          · rename_i c2 H e2
            obtain ⟨c3, L, e3, hcs, hres⟩ := low_bound (g := fun l => .sl i off l m (H - l) (M - l)) h
            obtain ⟨b, hβ, rfl⟩ := hx
            obtain ⟨h12, h3⟩ := hcs hc
            obtain ⟨er, k1, k2, k3⟩ := bounds_run (P := P) (w := w) false e1 e2 e3 h12.left h12.right h3 hb (Nat.le_refl _) rl rh rm
            refine ⟨.slice (some (if M = L then ⟨b, off, none⟩ else ⟨b, off + L * m, none⟩)) (H - L) (M - L), ?_, ?_⟩
            · simp only [Instr.sliceAt, Sem.run_bind, run_underlying hu, Result.andThen, Instr.sureAddr, er, run_size hm, Sem.run_pure, pt_add]
            · have main : Rel β (.sl i off L m (H - L) (M - L)) (.slice (some (if M = L then ⟨b, off, none⟩ else ⟨b, off + L * m, none⟩)) (H - L) (M - L)) := by
                refine ⟨b, if M = L then off else off + L * m, hβ, M - L, ?_, by omega, Nat.le_refl _, ?_⟩
                · split <;> rfl
                · intro hne
                  rw [if_neg (by omega)]
              rcases hres with ⟨_, rfl, hf⟩ | hg
              · simp only at hf; subst hf; simpa using main
              · simp only at hg; subst hg; exact main
          · cases h
        · cases h
    · cases h
  · cases h

theorem lenV_run {P : Program} {w : World} {β : Env} {t : TypeId} {x s : SV} (h : lenV P t x = some s) {v : Value} (hx : Rel β x v) (ty : TypeId) :
    ∃ u, (Builtin.len_ #[t] ty #[v]).run P w = .ok u w ∧ Rel β s u := by
  unfold lenV at h
  split at h <;> first | exact (none_ne h).elim | skip
  all_goals
    rename_i hu
    injection h with h; subst h
  · obtain ⟨b, o, _, _, rfl, _⟩ := hx
    exact ⟨_, by simp [Builtin.len_, run_underlying hu, Result.andThen]; rfl, rfl⟩
  · obtain ⟨base, room, rfl, _⟩ := hx
    exact ⟨_, by simp [Builtin.len_, run_underlying hu, Result.andThen]; rfl, rfl⟩
  · simp only [Rel] at hx; subst hx
    exact ⟨_, by simp [Builtin.len_, run_underlying hu, Result.andThen]; rfl, rfl⟩
  · exact ⟨_, by simp [Builtin.len_, run_underlying hu, Result.andThen]; rfl, rfl⟩
  · simp only [Rel] at hx; subst hx
    exact ⟨_, by simp [Builtin.len_, run_underlying hu, Result.andThen]; rfl, rfl⟩
  · simp only [Rel] at hx; subst hx
    exact ⟨_, by simp [Builtin.len_, run_underlying hu, Result.andThen]; rfl, rfl⟩

theorem minV_run {P : Program} {w : World} {β : Env} (mx : Bool) : ∀ {r : List SV} {x s : SV}, minV mx x r = some s → ∀ {v : Value} {vs : List Value}, Rel β x v → RelL β r vs →
    ∃ u, (vs.foldlM (if mx then Builtin.max2 else Builtin.min2) v).run P w = .ok u w ∧ Rel β s u
  | [], x, s, h, v, vs, hx, hr => by
    simp only [RelL] at hr; subst hr
    cases x <;> simp only [minV, Option.some.injEq, reduceCtorEq] at h
    subst h; exact ⟨v, by simp, hx⟩
  | y :: r, x, s, h, v, vs, hx, hr => by
    obtain ⟨u, us, rfl, hu, hl⟩ := hr
    cases x <;> try (simp [minV] at h; done)
    cases y <;> try (simp [minV] at h; done)
    rename_i k a k' b
    simp only [minV] at h
    cases hk : keq k k' with
    | false => rw [hk] at h; cases h
    | true =>
      rw [hk] at h
      simp only [cond_true] at h
      have e := keq_eq hk; subst e
      simp only [Rel] at hx hu; subst hx hu
      obtain ⟨q, hq, hrq⟩ := minV_run (P := P) (w := w) mx h (v := .int k (bif mx then max a b else min a b)) rfl hl
      refine ⟨q, ?_, hrq⟩
      have e2 : ((if mx then Builtin.max2 else Builtin.min2) (.int k a) (.int k b) : Sem Value).run P w = .ok (.int k (bif mx then max a b else min a b)) w := by
        cases mx
        · simp only [Bool.false_eq_true, if_false, Builtin.min2, cond_false, Sem.run_pure]
          congr 2
          split <;> omega
        · simp only [if_true, Builtin.max2, cond_true, Sem.run_pure]
          congr 2
          split <;> omega
      simp only [List.foldlM_cons, Sem.run_bind, e2, Result.andThen]
      exact hq

theorem quiet2_run {P : Program} {β : Env} {w : World} {sl : Slots} {ρ : Operand → Value} (hr : Rho β sl ρ)
    {o : Oper} {cs : List Prop} {s : SV} (h : quiet2 P sl o.op = some (cs, s)) (hc : All cs) : ∃ u, (execOp ρ o).run P w = .ok (.value u) w ∧ Rel β s u := by
  generalize hop : o.op = op at h
  unfold quiet2 at h
  split at h
  · rename_i fn fa fc
    split at h <;> first | exact (none_ne h).elim | skip
    rename_i e1 e2
    simp only [Option.some.injEq, Prod.mk.injEq] at h
    obtain ⟨rfl, rfl⟩ := h
    exact ⟨.func fn (fa.map ρ) (fc.map ρ), by simp only [execOp, hop, Instr.makeFunc]; rfl, (fa.map ρ).toList, (fc.map ρ).toList, rfl, by simpa using evList_rel hr e1 hc.left, by simpa using evList_rel hr e2 hc.right⟩
  · rename_i t parts
    split at h <;> first | exact (none_ne h).elim | skip
    rename_i e1
    split at h <;> first | exact (none_ne h).elim | skip
    rename_i e2
    simp only [Option.some.injEq, Prod.mk.injEq] at h
    obtain ⟨rfl, rfl⟩ := h
    obtain ⟨c, hc1, hc2⟩ := buildV_run (P := P) (w := w) e2 (ps := parts.map fun (i, x) => (i, ρ x)) (by simpa using evParts_rel hr e1 hc)
    exact ⟨.agg c, by simp only [execOp, hop, Sem.run_bind, hc1]; rfl, c.toList, by simp, hc2⟩
  · split at h <;> first | exact (none_ne h).elim | skip
    rename_i e0 e1 e2 e3
    split at h <;> first | exact (none_ne h).elim | skip
    rename_i e4
    simp only [Option.some.injEq, Prod.mk.injEq] at h
    obtain ⟨rfl, rfl⟩ := h
    obtain ⟨u, hu, hru⟩ := sliceV_run (P := P) (w := w) e4 hc.right (evs_rel hr e0 hc.left.left.left.left) (evO_rel hr e1 hc.left.left.left.right) (evO_rel hr e2 hc.left.left.right) (evO_rel hr e3 hc.left.right)
    exact ⟨u, by simp only [execOp, hop, Sem.run_bind, hu]; rfl, hru⟩
  · split at h <;> first | exact (none_ne h).elim | skip
    rename_i d hne hu e1
    simp only [Option.some.injEq, Prod.mk.injEq] at h
    obtain ⟨rfl, rfl⟩ := h
    refine ⟨_, ?_, _, rfl, evs_rel hr e1 hc⟩
    simp only [execOp, hop, Instr.makeInterface, Sem.run_bind, run_underlying hu, Result.andThen]
    cases d <;> first | rfl | exact (hne _ rfl).elim
  · rename_i as ts
    split at h <;> first | exact (none_ne h).elim | skip
    rename_i t _ _ e0 e1
    split at h <;> first | exact (none_ne h).elim | skip
    rename_i e2
    simp only [Option.some.injEq, Prod.mk.injEq] at h
    obtain ⟨rfl, rfl⟩ := h
    have hl := evList_rel hr e1 hc
    obtain ⟨v, vs, ev, hv, hn⟩ := hl
    simp only [RelL] at hn; subst hn
    obtain ⟨u, hu, hru⟩ := lenV_run (P := P) (w := w) e2 hv o.type
    refine ⟨u, ?_, hru⟩
    have ets : ts = #[t] := by apply Array.ext'; simpa using e0
    have eas : as.map ρ = #[v] := by apply Array.ext'; simpa using ev
    simp only [execOp, hop, Sem.run_bind, resolve, Sem.run_pure, Result.andThen, invoke, builtin, ets, eas, hu]
  · rename_i as ts
    split at h <;> first | exact (none_ne h).elim | skip
    rename_i e1
    split at h <;> first | exact (none_ne h).elim | skip
    rename_i e2
    simp only [Option.some.injEq, Prod.mk.injEq] at h
    obtain ⟨rfl, rfl⟩ := h
    obtain ⟨v, vs, ev, hv, hn⟩ := evList_rel hr e1 hc
    obtain ⟨u, hu, hru⟩ := minV_run (P := P) (w := w) false e2 hv hn
    refine ⟨u, ?_, hru⟩
    have eas : (as.map ρ).toList = v :: vs := by simpa using ev
    simp only [Bool.false_eq_true, if_false] at hu
    simp only [execOp, hop, Sem.run_bind, resolve, Sem.run_pure, Result.andThen, invoke, builtin, Builtin.min_, eas, hu]
  · rename_i as ts
    split at h <;> first | exact (none_ne h).elim | skip
    rename_i e1
    split at h <;> first | exact (none_ne h).elim | skip
    rename_i e2
    simp only [Option.some.injEq, Prod.mk.injEq] at h
    obtain ⟨rfl, rfl⟩ := h
    obtain ⟨v, vs, ev, hv, hn⟩ := evList_rel hr e1 hc
    obtain ⟨u, hu, hru⟩ := minV_run (P := P) (w := w) true e2 hv hn
    refine ⟨u, ?_, hru⟩
    have eas : (as.map ρ).toList = v :: vs := by simpa using ev
    simp only [if_true] at hu
    simp only [execOp, hop, Sem.run_bind, resolve, Sem.run_pure, Result.andThen, invoke, builtin, Builtin.max_, eas, hu]
  · cases h

theorem replicate_rel {β : Env} {z : List SV} {v : List Value} (h : RelL β z v) : ∀ n, RelL β ((List.replicate n z).flatten) ((List.replicate n v).flatten)
  | 0 => by simp [RelL]
  | n + 1 => by simp only [List.replicate_succ, List.flatten_cons]; exact h.append (replicate_rel h n)
theorem flat_get (c : Array Value) (sz : Nat) (h : c.size = sz) : ∀ (n j : Nat), j < n * sz → ((List.replicate n c.toList).flatten)[j]? = c[j % sz]?
  | 0, j, hj => by omega
  | n + 1, j, hj => by
    simp only [List.replicate_succ, List.flatten_cons]
    by_cases h1 : j < sz
    · rw [List.getElem?_append_left (by simpa [h] using h1), Nat.mod_eq_of_lt h1]; simp
    · rw [List.getElem?_append_right (by simpa [h] using h1)]
      simp only [Array.length_toList, h]
      rw [flat_get c sz h n (j - sz) (by rw [Nat.add_mul] at hj; omega), ← Nat.mod_eq_sub_mod (by omega)]
theorem row_flat (c : Array Value) (n sz : Nat) (h : c.size = sz) : ((Array.range (n * sz)).map (c[· % c.size]!)) = ((List.replicate n c.toList).flatten).toArray := by
  apply Array.ext'
  simp only [Array.toList_map, Array.toList_range]
  apply List.ext_getElem?
  intro j
  have hlen : ((List.replicate n c.toList).flatten).length = n * sz := by simp [h]
  by_cases hj : j < n * sz
  · have hp : 0 < sz := by
      rcases Nat.eq_zero_or_pos sz with h0 | h0
      · rw [h0] at hj; omega
      · exact h0
    have hmod : j % sz < sz := Nat.mod_lt _ hp
    rw [List.getElem?_map, List.getElem?_range hj, Option.map_some, flat_get c sz h n j hj, h, getElem!_pos c (j % sz) (by omega), Array.getElem?_eq_getElem (by omega)]
  · rw [List.getElem?_eq_none (by simpa using hj), List.getElem?_eq_none (by rw [hlen]; omega)]

theorem fresh1_run {P : Program} {β : Env} {w : World} {sl : Slots} {ρ : Operand → Value} (hr : Rho β sl ρ) {i : Nat} {o : Oper} {cs : List Prop} {s : SV} {so : SO}
    (h : fresh1 P sl i o.op = some (cs, s, so)) (hc : All cs) :
    ∃ ob u, (execOp ρ o).run P w = .ok (.value u) (w.alloc ob) ∧ loose ob ∧ (∀ β' : Env, β.le β' → β' i = some w.heap.size → ORel β' so ob) ∧
      ∀ β' : Env, β.le β' → β' i = some w.heap.size → β'.room i = osize ob → Rel β' s u := by
  have hns : ∀ {v : SV}, v.cells.all storable = true → (∀ g y, v ≠ .cnd g y) ∧ v ≠ .und := by
    intro v hb
    constructor
    · rintro g y rfl; simp [SV.cells, storable] at hb
    · rintro rfl; simp [SV.cells, storable] at hb
  generalize hop : o.op = op at h
  unfold fresh1 at h
  split at h
  · rename_i t
    split at h <;> first | exact (none_ne h).elim | skip
    rename_i z hz
    simp only [forceL_eq, Option.some.injEq, Prod.mk.injEq] at h
    obtain ⟨rfl, rfl, rfl⟩ := h
    obtain ⟨_, v, _, _, hrun, hrel⟩ := zero_run hz β w
    refine ⟨.cells v.cells t (0, 0), .pointer (some ⟨w.heap.size, 0, none⟩), ?_, rfl, fun β' hle hi => ⟨v.cells.toList, by simp, RelL.mono hle _ _ hrel⟩, fun β' hle hi _ => ⟨w.heap.size, hi, rfl⟩⟩
    simp [execOp, hop, Instr.alloc, hrun, Result.andThen, newVar, newRow]
  · rename_i t x
    split at h <;> first | exact (none_ne h).elim | skip
    rename_i cs v e1
    cases hb : v.cells.all storable with
    | false => rw [hb] at h; cases h
    | true =>
      rw [hb] at h
      simp only [cond_true, forceL_eq, Option.some.injEq, Prod.mk.injEq] at h
      obtain ⟨rfl, rfl, rfl⟩ := h
      have hx := evs_rel hr e1 hc
      refine ⟨.cells (ρ x).cells t (0, 0), .pointer (some ⟨w.heap.size, 0, none⟩), ?_, rfl, fun β' hle hi => ⟨(ρ x).cells.toList, by simp, RelL.mono hle _ _ (cells_rel hx (hns hb).1 (hns hb).2)⟩, fun β' hle hi _ => ⟨w.heap.size, hi, rfl⟩⟩
      simp [execOp, hop, Instr.box, Result.andThen, newVar, newRow]
  · rename_i t len parts
    split at h <;> first | exact (none_ne h).elim | skip
    rename_i el cs l hu e1
    split at h <;> first | exact (none_ne h).elim | skip
    rename_i sz z hsz hz
    rw [natF_eq] at h
    cases hb : (Nat.beq z.length sz && Nat.ble (len * sz) 1024) with
    | false => rw [hb] at h; cases h
    | true =>
      rw [hb] at h
      simp only [cond_true] at h
      simp only [Bool.and_eq_true] at hb
      have hzl := beq_nat hb.1
      have hle1 := ble_nat hb.2
      split at h <;> first | exact (none_ne h).elim | skip
      rename_i r' e2
      simp only [forceL_eq, Option.some.injEq, Prod.mk.injEq] at h
      obtain ⟨rfl, rfl, rfl⟩ := h
      obtain ⟨_, v, hi, hv, hrun, hrel⟩ := zero_run hz β w
      have hvl : v.cells.size = sz := by have := hrel.length; simp at this; omega
      have hflat := replicate_rel hrel len
      obtain ⟨c, hc1, hc2⟩ := sfill_rel e2 hflat (ps := (parts.map fun (i, x) => (i, ρ x)).toList) (by simpa using evParts_rel hr e1 hc)
      have hrow := row_flat v.cells len sz hvl
      have hcl : c.size = len * sz := by
        have q1 := sfill_len e2
        have q2 := hc2.length
        simp [hzl] at q1 q2
        omega
      refine ⟨.cells c el (0, 0), .slice (some ⟨w.heap.size, 0, none⟩) len len, ?_, rfl, fun β' hle hi => ⟨c.toList, by simp, RelL.mono hle _ _ hc2⟩, fun β' hle hi hro => ⟨some ⟨w.heap.size, 0, none⟩, len, rfl, fun hh => (by simp at hh), fun _ hh => hh, fun _ => rfl, fun _ => ⟨Nat.le_refl _, w.heap.size, hi, by simp, fun _ => ?_⟩⟩⟩
      · have h1 : ¬ (len * sz > 2 ^ 24) := by omega
        by_cases h0 : len * sz = 0
        · have hl0 : (List.replicate len v.cells.toList).flatten = [] := by
            rw [List.eq_nil_iff_length_eq_zero]; simp [hvl, h0]
          rw [hl0] at hc1
          simp only [execOp, hop, Sem.run_bind, Instr.buildSlice, run_underlying hu, Result.andThen, run_size hsz, h0, if_true, Sem.run_pure]
          have hc1' : Instr.fill (fun i => some (i * sz, sz)) #[] (parts.map fun (i, x) => (i, ρ x)).toList = some c := hc1
          simp only [gt_iff_lt, Nat.not_lt_zero, if_false, Sem.run_bind, Sem.run_pure, Result.andThen, show Array.range 0 = (#[] : Array Nat) from rfl, Array.map_empty, hc1', newRow, run_newObj_alloc]
        · simp only [execOp, hop, Sem.run_bind, Instr.buildSlice, run_underlying hu, Result.andThen, run_size hsz, h0, h1, if_false, hrun, Sem.run_pure, hrow, hc1, newRow, run_newObj_alloc]
      · rw [hro]; show _ ≤ c.size; omega
  · rename_i t
    simp only [Option.some.injEq, Prod.mk.injEq] at h
    obtain ⟨rfl, rfl, rfl⟩ := h
    refine ⟨.map #[] 0, .map (some w.heap.size), ?_, trivial, fun β' hle hi => rfl, fun β' hle hi _ => ⟨w.heap.size, hi, rfl⟩⟩
    simp [execOp, hop, Instr.makeMap, Result.andThen]
  · rename_i t len cap
    split at h <;> first | exact (none_ne h).elim | skip
    rename_i el hu
    split at h <;> first | exact (none_ne h).elim | skip
    rename_i inf hinf
    split at h <;> first | exact (none_ne h).elim | skip
    rename_i z cs1 k1 n cs2 k2 c hz e1 e2
    cases hb : (Nat.beq z.length inf.size && Nat.ble 1 inf.size) with
    | false => rw [hb] at h; cases h
    | true =>
    rw [hb] at h
    simp only [cond_true, natF_eq, Option.some.injEq, Prod.mk.injEq] at h
    obtain ⟨rfl, rfl, rfl⟩ := h
    simp only [Bool.and_eq_true] at hb
    have hzl := beq_nat hb.1
    have hsz := ble_nat hb.2
    obtain ⟨i', v, hi, hv, hrun, hrel⟩ := zero_run hz β w
    rw [hinf] at hi; injection hi with hi; subst hi
    have h0 : 0 ≤ n := hc.right.head
    have h1 : n = c := hc.right.tail.head
    have h2 : n ≤ 9223372036854775807 := hc.right.tail.tail.head
    have h3 : (inf.bytes : Int) * n ≤ 281474976710656 := hc.right.tail.tail.tail.head
    subst h1
    have x1 := evs_rel hr e1 hc.left.left
    have x2 := evs_rel hr e2 hc.left.right
    simp only [Rel] at x1 x2
    have hvl : v.cells.size = inf.size := by have := hrel.length; simp at this; omega
    have hm := run_make (P := P) w t el inf v hu hinf hv k1 k2 n n h0 (Int.le_refl _) h3 h2
    refine ⟨.cells (madeCells v.cells (n.toNat * inf.size)) el (0, 0), .slice (some ⟨w.heap.size, 0, none⟩) n.toNat n.toNat, ?_, rfl, fun β' hle hi => ?_, fun β' hle hi hro => ⟨some ⟨w.heap.size, 0, none⟩, n.toNat, rfl, fun hh => (by simp at hh), fun _ hh => hh, fun _ => rfl, fun _ => ⟨Nat.le_refl _, w.heap.size, hi, by simp, fun _ => ?_⟩⟩⟩
    · simp only [execOp, hop, Sem.run_bind, x1, x2, hm, Result.andThen, Sem.run_pure]
    · refine ⟨_, _, _, .inr rfl, rfl, Nat.le_refl _, by rw [size_madeCells]; omega, fun j k hj hk => ?_⟩
      have hlt : j * inf.size + k < n.toNat * inf.size := by
        have : (j + 1) * inf.size ≤ n.toNat * inf.size := Nat.mul_le_mul_right _ hj
        rw [Nat.add_mul] at this; omega
      have hg : z[k]? = some (z.getD k .und) := by
        rw [List.getD_eq_getElem?_getD, List.getElem?_eq_getElem (by omega)]; rfl
      obtain ⟨u, hu1, hu2⟩ := hrel.get hg
      refine ⟨u, ?_, Rel.mono hle _ _ hu2⟩
      unfold madeCells
      rw [Nat.zero_add, Array.getElem?_map, Array.getElem?_range, if_pos hlt]
      have hmod : (j * inf.size + k) % v.cells.size = k := by
        rw [hvl, Nat.mul_comm, Nat.mul_add_mod, Nat.mod_eq_of_lt hk]
      simp only [Option.map_some, hmod]
      rw [getElem!_pos v.cells k (by omega)]
      have : v.cells[k]? = some u := by simpa using hu1
      rw [Array.getElem?_eq_getElem (by omega)] at this
      exact this
    · rw [hro]; show _ ≤ Array.size _; rw [size_madeCells]; exact Nat.le_refl _
  · cases h

theorem store1_run {P : Program} {β : Env} {hp ro : Hp} {B : Base} {w : World} {sl : Slots} {ρ : Operand → Value} (hs : Mem β hp ro B w) (hr : Rho β sl ρ) {i : Nat} {o : Oper} {cs : List Prop} {so : SO}
    (h : store1 P sl hp o.op = some (cs, i, so)) (hc : All cs) : ∃ w' o', (execOp ρ o).run P w = .ok .skip w' ∧ (hget i hp = some o' ∧ o'.Live) ∧ Wrote β i so w w' := by
  generalize hop : o.op = op at h
  unfold store1 at h
  split at h
  · rename_i t a x
    split at h <;> first | exact (none_ne h).elim | skip
    rename_i cs a' ds v e1 e2
    split at h <;> first | exact (none_ne h).elim | skip
    rename_i es i' so' e3
    simp only [Option.some.injEq, Prod.mk.injEq] at h
    obtain ⟨rfl, rfl, rfl⟩ := h
    obtain ⟨w', o', hw, hm, hwr⟩ := store_run (P := P) hs e3 hc.right (evs_rel hr e1 hc.left.left) (evs_rel hr e2 hc.left.right)
    exact ⟨w', o', by simp only [execOp, hop, Sem.run_bind, hw]; rfl, hm, hwr⟩
  · cases h

theorem loud_run {P : Program} {β : Env} {hp ro : Hp} {B : Base} {nx : Nat} {w : World} {sl : Slots} {ρ : Operand → Value} (hs : Sat β hp ro B nx w) (hB : ∀ b o, B.D b = some o → b < B.w.heap.size) (hr : Rho β sl ρ)
    {o : Oper} {r : Res} (h : loud P sl hp ro nx o.op = some r) (hc : All r.cs) :
    ∃ β' w', β.le β' ∧ Sat β' r.hp ro B r.nx w' ∧ match r.v with
      | some s => ∃ u, (execOp ρ o).run P w = .ok (.value u) w' ∧ Rel β' s u
      | none => (execOp ρ o).run P w = .ok .skip w' := by
  unfold loud at h
  split at h
  · rename_i cs v so e1
    injection h with h; subst h
    obtain ⟨ob, u, hrun, hl, hor, hrel⟩ := fresh1_run (w := w) hr e1 hc
    obtain ⟨β', hle, hnx, hro, hs'⟩ := hs.new so ob hB hor hl
    exact ⟨β', _, hle, hs', u, hrun, hrel β' hle hnx hro⟩
  · split at h
    · rename_i cs i so e1
      split at h <;> first | exact (none_ne h).elim | skip
      rename_i hp' e2
      injection h with h; subst h
      obtain ⟨w', o', hrun, hm, hwr⟩ := store1_run (P := P) hs.toMem hr e1 hc
      exact ⟨β, w', Env.le_refl _, ⟨hs.toMem.wrote hm e2 hwr, hs.fresh⟩, hrun⟩
    · split at h <;> first | exact (none_ne h).elim | skip
      rename_i cs ks n m sz f e e1
      rw [hdrop_eq] at h
      injection h with h; subst h
      obtain ⟨β', w', v, h1, h2, h3, h4⟩ := app_run hs hB hr e1 hc
      exact ⟨β', w', h1, h2, v, h4, h3⟩
end Sx
