/- The symbolic machine's quiet operations follow the model's. No condition. -/
import Derived.Test.YtpjabkjacldgcaaEng2
namespace Sx
open Go

def All (cs : List Prop) : Prop := ∀ c ∈ cs, c
theorem All.nil : All [] := by intro c h; cases h
theorem All.cons {p : Prop} {cs : List Prop} (h : p) (hs : All cs) : All (p :: cs) := by
  intro c hc; cases hc with
  | head => exact h
  | tail _ hc => exact hs c hc
theorem All.left {a b : List Prop} (h : All (a ++ b)) : All a := fun c hc => h c (List.mem_append_left _ hc)
theorem All.right {a b : List Prop} (h : All (a ++ b)) : All b := fun c hc => h c (List.mem_append_right _ hc)
theorem All.head {p : Prop} {b : List Prop} (h : All (p :: b)) : p := h p (List.mem_cons_self ..)
theorem All.tail {p : Prop} {b : List Prop} (h : All (p :: b)) : All b := fun c hc => h c (List.mem_cons_of_mem _ hc)

theorem scal_rel (β : Env) {v : Value} {s : SV} (h : scal v = some s) : Rel β s v := by
  unfold scal at h
  split at h <;> first | (injection h with h; subst h; simp [Rel]; done) | cases h
theorem scals_rel (β : Env) : ∀ {vs : List Value} {ss : List SV}, scals vs = some ss → RelL β ss vs
  | [], ss, h => by injection h with h; subst h; simp [RelL]
  | v :: r, ss, h => by
    unfold scals at h
    split at h
    · rename_i s ss' h1 h2
      injection h with h; subst h
      exact ⟨v, r, rfl, scal_rel β h1, scals_rel β h2⟩
    · cases h
theorem ofVal_rel (β : Env) {v : Value} {s : SV} (h : ofVal v = some s) : Rel β s v := by
  unfold ofVal at h
  split at h
  · split at h
    · rename_i hl
      injection h with h; subst h
      exact ⟨_, by simp, scals_rel β hl⟩
    · cases h
  · split at h
    · rename_i hl
      injection h with h; subst h
      exact ⟨_, rfl, scal_rel β hl⟩
    · cases h
  · exact scal_rel β h

structure Rho (β : Env) (sl : Slots) (ρ : Operand → Value) : Prop where
  slot : ∀ t v, look t sl = some v → Rel β v (ρ (.tmp t))
  const : ∀ v, ρ (.const v) = v
  func : ∀ f, ρ (.func f) = .func (.func f) #[] #[]

theorem ev_rel {β : Env} {sl : Slots} {ρ : Operand → Value} (hr : Rho β sl ρ) {x : Operand} {s : SV} (h : ev sl x = some s) : Rel β s (ρ x) := by
  cases x with
  | tmp t => exact hr.slot t s h
  | const v => rw [hr.const]; exact ofVal_rel β h
  | global g => cases h
  | func f => injection h with h; subst h; rw [hr.func]; exact ⟨[], [], rfl, rfl, rfl⟩
theorem strip_rel {β : Env} {s s' : SV} {cs : List Prop} {v : Value} (h : s.strip = (cs, s')) (hc : All cs) (hr : Rel β s v) : Rel β s' v := by
  cases s <;> simp only [SV.strip, Prod.mk.injEq] at h <;> obtain ⟨rfl, rfl⟩ := h <;> first | exact hr | exact hr.1 hc.head
theorem evs_rel {β : Env} {sl : Slots} {ρ : Operand → Value} (hr : Rho β sl ρ) {x : Operand} {cs : List Prop} {s : SV} (h : evs sl x = some (cs, s)) (hc : All cs) : Rel β s (ρ x) := by
  unfold evs at h
  split at h
  · rename_i v hv
    injection h with h
    exact strip_rel h hc (ev_rel hr hv)
  · cases h

theorem RelL.length {β : Env} : ∀ {ss : List SV} {vs : List Value}, RelL β ss vs → ss.length = vs.length
  | [], vs, h => by simp only [RelL] at h; subst h; rfl
  | s :: ss, vs, h => by obtain ⟨v, vs', rfl, _, hl⟩ := h; simp [RelL.length hl]
theorem RelL.get {β : Env} : ∀ {ss : List SV} {vs : List Value}, RelL β ss vs → ∀ {i : Nat} {s : SV}, ss[i]? = some s → ∃ v, vs[i]? = some v ∧ Rel β s v
  | [], vs, h, i, s, hi => by simp at hi
  | s :: ss, vs, h, i, s', hi => by
    obtain ⟨v, vs', rfl, hv, hl⟩ := h
    cases i with
    | zero => simp at hi; subst hi; exact ⟨v, by simp, hv⟩
    | succ i => simp at hi; obtain ⟨u, hu, hr⟩ := RelL.get hl hi; exact ⟨u, by simpa using hu, hr⟩
theorem RelL.mk {β : Env} : ∀ {ss : List SV} {vs : List Value}, ss.length = vs.length → (∀ (i : Nat) (s : SV) (v : Value), ss[i]? = some s → vs[i]? = some v → Rel β s v) → RelL β ss vs
  | [], [], _, _ => rfl
  | [], v :: vs, h, _ => by simp at h
  | s :: ss, [], h, _ => by simp at h
  | s :: ss, v :: vs, h, hr => ⟨v, vs, rfl, hr 0 s v rfl rfl, RelL.mk (by simpa using h) (fun i s' v' hs hv => hr (i + 1) s' v' (by simpa using hs) (by simpa using hv))⟩
theorem RelL.drop {β : Env} {ss : List SV} {vs : List Value} (h : RelL β ss vs) (k : Nat) : RelL β (ss.drop k) (vs.drop k) := by
  refine RelL.mk (by simp [h.length]) (fun i s v hs hv => ?_)
  simp at hs hv
  obtain ⟨u, hu, hr⟩ := h.get hs
  rw [hv] at hu; injection hu with hu; subst hu; exact hr
theorem RelL.take {β : Env} {ss : List SV} {vs : List Value} (h : RelL β ss vs) (k : Nat) : RelL β (ss.take k) (vs.take k) := by
  have hlen := h.length
  refine RelL.mk (by simp [hlen]) (fun i s v hs hv => ?_)
  simp only [List.getElem?_take] at hs hv
  split at hs
  · rename_i hk
    rw [if_pos hk] at hv
    obtain ⟨u, hu, hr⟩ := h.get hs
    rw [hv] at hu; injection hu with hu; subst hu; exact hr
  · cases hs

theorem beq_nat {a b : Nat} (h : Nat.beq a b = true) : a = b := Nat.eq_of_beq_eq_true h
theorem ble_nat {a b : Nat} (h : Nat.ble a b = true) : a ≤ b := Nat.le_of_ble_eq_true h

theorem famFrom_get (f : Nat → Nat → SV) (e : Nat) : ∀ (m k : Nat) (l : List SV), famFrom f e k m = some l → l.length = m ∧ ∀ (i : Nat) (s : SV), l[i]? = some s → s = f e (k + i)
  | 0, k, l, h => by injection h with h; subst h; simp
  | m + 1, k, l, h => by
    simp only [famFrom, SV.force_eq] at h
    split at h
    · rename_i r hr
      injection h with h; subst h
      obtain ⟨h1, h2⟩ := famFrom_get f e m (k + 1) r hr
      refine ⟨by simp [h1], fun i s hs => ?_⟩
      cases i with
      | zero => simp at hs; simp [hs]
      | succ i => simp at hs; rw [h2 i s hs]; congr 1; omega
    · cases h
theorem cut_spec : ∀ {l : List SV} {k m : Nat} {r : List SV}, cut l k m = some r → r = (l.drop k).take m ∧ r.length = m
  | l, 0, 0, r, h => by simp [cut] at h; subst h; simp
  | v :: l, 0, m + 1, r, h => by
    simp only [cut] at h
    split at h
    · rename_i r' hr
      injection h with h; subst h
      obtain ⟨h1, h2⟩ := cut_spec hr
      refine ⟨by rw [h1]; simp, by simp [h2]⟩
    · cases h
  | v :: l, k + 1, m, r, h => by
    simp only [cut] at h
    obtain ⟨h1, h2⟩ := cut_spec h
    exact ⟨by rw [h1]; simp, h2⟩
  | [], k + 1, m, r, h => by simp [cut] at h
  | [], 0, m + 1, r, h => by simp [cut] at h

theorem oread_live {o : SO} {off e sz k m : Nat} {cs : List Prop} {l : List SV} (h : oread o off e sz k m = some (cs, l)) (hc : All cs) : o.Live := by
  cases o with
  | row off' n cap sz' f ty =>
    simp only [oread] at h
    cases hb : (Nat.beq sz sz' && Nat.ble (k + m) sz) with
    | false => rw [hb] at h; cases h
    | true =>
      rw [hb] at h
      simp only [cond_true] at h
      split at h
      case h_2 => cases h
      simp only [Option.some.injEq, Prod.mk.injEq] at h
      obtain ⟨rfl, rfl⟩ := h
      have := hc.head
      show 0 < n
      omega
  | cells => trivial
  | obj => trivial
  | lp => trivial
/-- m cells of a block, read. -/
theorem oread_cells {β : Env} {o : SO} {off e sz k m : Nat} {cs : List Prop} {l : List SV} (h : oread o off e sz k m = some (cs, l)) (hc : All cs) {ob : Obj} (hr : ORel β o ob) :
    ∃ (c : Array Value) (t : TypeId) (fz : Nat × Nat), ob = .cells c t fz ∧ ∃ us, RelL β l us ∧ us.length = m ∧ ∀ j v, us[j]? = some v → c[off + e * sz + k + j]? = some v := by
  cases o with
  | cells vs ty =>
    obtain ⟨us, rfl, hl⟩ := hr
    simp only [oread] at h
    refine ⟨_, _, _, rfl, ?_⟩
    split at h
    case h_2 => cases h
    case h_1 l' hcut =>
      simp only [Option.some.injEq, Prod.mk.injEq] at h
      obtain ⟨rfl, rfl⟩ := h
      obtain ⟨rfl, hlen⟩ := cut_spec hcut
      refine ⟨(us.drop (off + e * sz + k)).take m, (hl.drop _).take _, ?_, ?_⟩
      · rw [← ((hl.drop _).take _).length]; exact hlen
      · intro j v hv
        simp only [List.getElem?_take, List.getElem?_drop] at hv
        split at hv
        · simpa using hv
        · cases hv
  | row off' n cap sz' f ty =>
    obtain ⟨c, fz, tt, _, rfl, hn, hcc, hf⟩ := hr
    simp only [oread] at h
    cases hb : (Nat.beq sz sz' && Nat.ble (k + m) sz) with
    | false => rw [hb] at h; cases h
    | true =>
      rw [hb] at h
      simp only [cond_true] at h
      split at h
      case h_2 => cases h
      rename_i l' hfam
      simp only [Option.some.injEq, Prod.mk.injEq] at h
      obtain ⟨rfl, rfl⟩ := h
      obtain ⟨hfl, hfg⟩ := famFrom_get f e m k _ hfam
      simp only [Bool.and_eq_true] at hb
      obtain ⟨h2, h3⟩ := hb
      have h2 := beq_nat h2; have h3 := ble_nat h3
      obtain ⟨h1, he⟩ : off = off' ∧ e < n := hc.head
      subst h1 h2
      refine ⟨c, tt, fz, rfl, (List.range m).map (fun j => (c[off + e * sz + (k + j)]?).getD undef), ?_, by simp, ?_⟩
      · refine RelL.mk (by simp [hfl]) (fun i s v hs hv => ?_)
        have hi : i < m := by rw [← hfl]; exact (List.getElem?_eq_some_iff.1 hs).1
        have hs' := hfg i s hs
        subst hs'
        obtain ⟨u, hu, hur⟩ := hf e (k + i) he (by omega)
        simp only [List.getElem?_map, List.getElem?_range hi, Option.map_some, Option.some.injEq] at hv
        rw [hu] at hv
        simp at hv; subst hv; exact hur
      · intro j v hv
        simp only [List.getElem?_map] at hv
        by_cases hj : j < m
        · obtain ⟨u, hu, hur⟩ := hf e (k + j) he (by omega)
          simp only [List.getElem?_range hj, Option.map_some, Option.some.injEq] at hv
          rw [hu] at hv; simp at hv; subst hv
          rw [← hu]; congr 1; omega
        · rw [List.getElem?_eq_none (by simpa using hj)] at hv; cases hv
  | obj o' => cases h
  | lp => cases h

theorem oplace_rel {β : Env} {a : SV} {v : Value} {i off e sz k : Nat} (h : oplace a = some (i, off, e, sz, k)) (hr : Rel β a v) :
    ∃ b, β i = some b ∧ v = .pointer (some ⟨b, off + e * sz + k, none⟩) := by
  cases a <;> simp only [oplace, Option.some.injEq, Prod.mk.injEq, reduceCtorEq] at h
  · obtain ⟨rfl, rfl, rfl, rfl, rfl⟩ := h; obtain ⟨b, hb, hv⟩ := hr; exact ⟨b, hb, by simpa using hv⟩
  · obtain ⟨rfl, rfl, rfl, rfl, rfl⟩ := h; exact hr

theorem hread_cells {β : Env} {hp ro : Hp} {B : Base} {w : World} (hs : Mem β hp ro B w) {a : SV} {m : Nat} {cs : List Prop} {l : List SV}
    (h : hread hp ro a m = some (cs, l)) (hc : All cs) {v : Value} (hr : Rel β a v) :
    ∃ ad : Addr, v = .pointer (some ad) ∧ ad.spot = none ∧ ∃ us, RelL β l us ∧ us.length = m ∧ ∀ j v, us[j]? = some v → w.cell? (ad.add j) = some v := by
  unfold hread at h
  split at h
  · rename_i i off e sz k hp'
    obtain ⟨b, hb, rfl⟩ := oplace_rel hp' hr
    refine ⟨_, rfl, rfl, ?_⟩
    have key : ∀ (o : SO) (ob : Obj), w.heap[b]? = some ob → ORel β o ob → oread o off e sz k m = some (cs, l) →
        ∃ us, RelL β l us ∧ us.length = m ∧ ∀ j v, us[j]? = some v → w.cell? ((⟨b, off + e * sz + k, none⟩ : Addr).add j) = some v := by
      intro o ob hob hor hrd
      obtain ⟨c, t, fz, rfl, us, hl, hlen, hcell⟩ := oread_cells hrd hc hor
      refine ⟨us, hl, hlen, fun j v hv => ?_⟩
      have := hcell j v hv
      unfold Addr.add
      split
      · rename_i h0; subst h0; simpa [World.cell?, hob] using this
      · simpa [World.cell?, hob] using this
    split at h
    · rename_i o ho
      obtain ⟨b', ob, hb', _, hob, hor, _⟩ := hs.own _ _ ho (oread_live h hc)
      rw [hb] at hb'; injection hb' with hb'; subst hb'
      exact key o ob hob hor h
    · split at h
      · rename_i o ho
        obtain ⟨b', ob, hb', hob, hor⟩ := hs.read _ _ ho (oread_live h hc)
        rw [hb] at hb'; injection hb' with hb'; subst hb'
        exact key o ob (hs.old _ _ hob) hor h
      · cases h
  · cases h

theorem run_isAgg {P : Program} {t : TypeId} {b : Bool} (h : aggIn P t = some b) (w : World) : (isAgg t).run P w = .ok b w := by
  unfold aggIn at h
  unfold isAgg
  split at h
  · rename_i hu; injection h with h; subst h; simp [run_underlying hu, Result.andThen]
  · rename_i hu; injection h with h; subst h; simp [run_underlying hu, Result.andThen]
  · rename_i d h1 h2 hu
    injection h with h; subst h
    simp only [Sem.run_bind, run_underlying hu, Result.andThen]
    cases d <;> first | rfl | exact (h1 _ rfl).elim | exact (h2 _ _ rfl).elim
  · cases h
theorem run_size {P : Program} {t : TypeId} {m : Nat} (h : sizeIn P t = some m) (w : World) : (Go.sizeOf t).run P w = Result.ok m w := by
  unfold sizeIn at h
  split at h
  · rename_i i hi
    injection h with h; subst h
    simp [Go.sizeOf, typeInfo, hi, Result.andThen]
  · cases h

theorem load_run {P : Program} {β : Env} {hp ro : Hp} {B : Base} {w : World} (hs : Mem β hp ro B w) {t : TypeId} {a : SV} {cs : List Prop} {s : SV}
    (h : load P hp ro t a = some (cs, s)) (hc : All cs) {v : Value} (hr : Rel β a v) : ∃ u, (Instr.loadAt t v).run P w = .ok u w ∧ Rel β s u := by
  unfold load at h
  split at h
  · rename_i ha
    split at h
    · rename_i m hm
      split at h
      · rename_i cs' l hl
        injection h with h
        simp only [Prod.mk.injEq] at h
        obtain ⟨rfl, rfl⟩ := h
        obtain ⟨ad, rfl, hsp, us, hrl, hlen, hcell⟩ := hread_cells hs hl hc hr
        refine ⟨.agg us.toArray, ?_, us, rfl, hrl⟩
        have := run_loadCells_list (P := P) w ad us hcell
        rw [hlen] at this
        simp [Instr.loadAt, Instr.sureAddr, loadVar, run_isAgg ha, run_size hm, Result.andThen, this]
      · cases h
    · cases h
  · rename_i ha
    split at h
    · rename_i cs' s' hl
      injection h with h
      simp only [Prod.mk.injEq] at h
      obtain ⟨rfl, rfl⟩ := h
      obtain ⟨ad, rfl, hsp, us, hrl, hlen, hcell⟩ := hread_cells hs hl hc hr
      obtain ⟨u, us', rfl, hu, hn⟩ := hrl
      simp only [RelL] at hn; subst hn
      have h0 := hcell 0 u (by simp)
      simp only [Addr.add, if_true] at h0
      refine ⟨u, ?_, hu⟩
      simp [Instr.loadAt, Instr.sureAddr, loadVar, run_isAgg ha, Result.andThen, h0]
    · cases h
  · cases h

theorem keq_eq {a b : IntKind} (h : keq a b = true) : a = b := by cases a <;> cases b <;> first | rfl | cases h

end Sx
