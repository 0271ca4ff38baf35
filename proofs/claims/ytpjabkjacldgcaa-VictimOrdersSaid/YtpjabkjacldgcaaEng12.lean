/- The model's machine follows the symbolic machine's steps: the theorem. No condition but the callees' own words. -/
import Derived.Test.YtpjabkjacldgcaaEng11
namespace Sx
open Go

section
variable {P : Program} {M : Mode} {ro : Hp} {B : Base} {f : FuncId} {R : Ending → World → Prop}

/-- A step of the machine that leaves memory alone. -/
theorem run_plain {fn : FId} {n : Nat} {sl : Slots} {td td' : List SI} {rest : List SFr} {hp : Hp} {nx : Nat}
    (h : Run P ro B f R ⟨⟨fn, n, sl, td'⟩, rest, hp, nx⟩)
    (hst : ∀ (b : Frame) (a : Act) (cs : List Frame) (w : World), step P (lone (b.atR a (td.map SI.item)) cs w) = .next (lone (b.atR a (td'.map SI.item)) cs w))
    (hok : (∀ x ∈ td, x.ok) → ∀ x ∈ td', x.ok) : Run P ro B f R ⟨⟨fn, n, sl, td⟩, rest, hp, nx⟩ := by
  refine Run.step (fun β w fr frs cs hf hfs hs => ?_) h
  refine ⟨β, w, fr.atR ⟨fr.tmps, dfr fn.dfs⟩ (td'.map SI.item), frs, .one ?_, FrRel.of hf.fn hf.rnd hf.kind hf.size hf.slot hf.lt (hok hf.ok), hfs, hs⟩
  have := hf.at
  rw [this]; exact hst _ _ _ _

/-- The next operation of a region gives a value. -/
theorem run_op {fn : FId} {n : Nat} {sl sl' : Slots} {ops : Array Oper} {i : Nat} {o : Oper} {cur : List Oper} {tl : Option (List Nat)} {k : List SI} {rest : List SFr} {hp hp' : Hp} {nx nx' : Nat} {s : SV}
    (h : Run P ro B f R ⟨⟨fn, n, sl', .reg ops (i + 1) cur tl :: k⟩, rest, hp', nx'⟩)
    (hput : put o.dst s n sl = some sl')
    (hop : ∀ (β : Env) (w : World) (tmps : Array Value) (b : Frame) (k : List Item) (cs : List Frame) (r : List Nat), tmps.size = n → (∀ t v, look t sl = some v → Rel β v (tmps.getD t undef)) →
      (∀ t v, look t sl = some v → t < tmps.size) → Sat β hp ro B nx w → b.kind = .normal → ops[i]? = some o →
      ∃ (β' : Env) (w' : World) (v : Value), β.le β' ∧ Sat β' hp' ro B nx' w' ∧ Rel β' s v ∧
        Steps P (lone (b.atR ⟨tmps, dfr fn.dfs⟩ (.inRegion ops (i :: r) :: k)) cs w) (lone (b.atR (Act.put ⟨tmps, dfr fn.dfs⟩ o.dst v) (.inRegion ops r :: k)) cs w')) :
    Run P ro B f R ⟨⟨fn, n, sl, .reg ops i (o :: cur) tl :: k⟩, rest, hp, nx⟩ := by
  refine Run.step (fun β w fr frs cs hf hfs hs => ?_) h
  have hrok := hf.ok _ (List.mem_cons_self ..)
  obtain ⟨ho, hok', hit⟩ := reg_ok hrok
  obtain ⟨β', w', v, hle, hs', hv, hst⟩ := hop β w fr.tmps fr (k.map SI.item) (frs ++ cs) (List.range' (i + 1) cur.length ++ tl.getD []) hf.size hf.slot (by rw [hf.size]; exact hf.lt) hs hf.kind ho
  obtain ⟨p1, p2, p3⟩ := put_spec (β := β') hput hf.size (fun t v e => Rel.mono hle _ _ (hf.slot t v e)) hf.lt hv
  refine ⟨β', w', fr.atR ⟨(Act.put ⟨fr.tmps, dfr fn.dfs⟩ o.dst v).tmps, dfr fn.dfs⟩ ((SI.reg ops (i + 1) cur tl :: k).map SI.item), frs, ?_, FrRel.of hf.fn hf.rnd hf.kind p1 p3 p2 ?_, hfs.mono hle, hs'⟩
  · have := hf.at
    rw [this, ← put_eq]
    simp only [List.map_cons, hit]
    exact hst
  · intro x hx
    cases hx with
    | head => exact hok'
    | tail _ hm => exact hf.ok x (List.mem_cons_of_mem _ hm)

theorem sum_steps {dd : List Deferred} (hM : SumOk P M.sum) (hP : Named P) {β : Env} {w : World} {sl : Slots} {tmps : Array Value} (hr : Rho β sl (Act.eval ⟨tmps, dd⟩))
    {o : Oper} {cs ds : List Prop} {g : Nat} {fn : Func} {c : Code} {xs : List SV} {s : SV} (h1 : callee P sl o.op = some (cs, g, fn, c, xs)) (h2 : M.sum g xs = some (ds, s)) (hc : All cs) (hd : All ds)
    {ops : Array Oper} {i : Nat} (hw : Region.wanted o (yielded ops tmps) = true) (b : Frame) (k : List Item) (fs : List Frame) (r : List Nat) (ho : ops[i]? = some o) :
    ∃ (w' : World) (v : Value), RowKit.Below w.heap.size w w' ∧ Rel β s v ∧
        Steps P (lone (b.atR ⟨tmps, dd⟩ (.inRegion ops (i :: r) :: k)) fs w) (lone (b.atR (Act.put ⟨tmps, dd⟩ o.dst v) (.inRegion ops r :: k)) fs w') := by
  obtain ⟨hfn, hb, vs, hl, hrun⟩ := callee_run (w := w) hP hr h1 hc
  have hcall := hM _ _ _ _ h2 hd β vs w hl
  have hst := op_enter (P := P) (b := b) (a := ⟨tmps, dd⟩) (k := k) (cs := fs) (w := w) (ops := ops) (i := i) (rest := r) ho hw hrun
  obtain ⟨e, w', fr', ⟨v, rfl, hv, hbel⟩, hco, _, hlv⟩ := hcall (b.atR ⟨tmps, dd⟩ (.inRegion ops (i :: r) :: k) :: fs)
  refine ⟨w', v, hbel, hv, (Steps.one hst).trans (Steps.trans hco (.one ?_))⟩
  have hfin : (b.atR ⟨tmps, dd⟩ (.inRegion ops (i :: r) :: k)).finish v = b.atR (Act.put ⟨tmps, dd⟩ o.dst v) (.inRegion ops r :: k) := by rw [Frame.finish_atR, ho]; rfl
  rw [← hfin]
  exact step_leave_returned hlv

theorem sstep_run (hP : Named P) (hB : B.ok) (hM : SumOk P M.sum) {c c' : Cfg} {cs : List Prop} (h : sstep P M ro c = some (cs, c')) (hc : All cs) (hr : Run P ro B f R c') : Run P ro B f R c := by
  unfold sstep at h
  have tl : ∀ {x : SI} {k : List SI}, (∀ y ∈ x :: k, y.ok) → ∀ y ∈ k, y.ok := fun hh y hy => hh y (List.mem_cons_of_mem _ hy)
  have add : ∀ {x : SI} {k : List SI}, x.ok → (∀ y ∈ k, y.ok) → ∀ y ∈ x :: k, y.ok := by
    intro x k hx hk y hy
    cases hy with
    | head => exact hx
    | tail _ hm => exact hk y hm
  split at h
  · simp only [Option.some.injEq, Prod.mk.injEq] at h; obtain ⟨rfl, rfl⟩ := h
    exact run_plain hr (fun _ _ _ _ => stepR_skip) tl
  · simp only [Option.some.injEq, Prod.mk.injEq] at h; obtain ⟨rfl, rfl⟩ := h
    exact run_plain hr (fun _ _ _ _ => stepR_label) tl
  · simp only [Option.some.injEq, Prod.mk.injEq] at h; obtain ⟨rfl, rfl⟩ := h
    exact run_plain hr (fun _ _ _ _ => stepR_inBlock) tl
  · simp only [Option.some.injEq, Prod.mk.injEq] at h; obtain ⟨rfl, rfl⟩ := h
    exact run_plain hr (fun _ _ _ _ => step_lone_go (by simp [stepG, stepG.exec, Frame.atR, SI.item])) tl
  · simp only [Option.some.injEq, Prod.mk.injEq] at h; obtain ⟨rfl, rfl⟩ := h
    exact run_plain hr (fun _ _ _ _ => stepR_seq) (fun hh => add trivial (add trivial (tl hh)))
  · simp only [Option.some.injEq, Prod.mk.injEq] at h; obtain ⟨rfl, rfl⟩ := h
    exact run_plain hr (fun _ _ _ _ => stepR_block) (fun hh => add trivial (add trivial (tl hh)))
  · simp only [Option.some.injEq, Prod.mk.injEq] at h; obtain ⟨rfl, rfl⟩ := h
    exact run_plain hr (fun _ _ _ _ => step_lone_go (by simp [stepG, stepG.exec, Frame.atR, SI.item])) (fun hh => add trivial (add trivial (tl hh)))
  · -- a test
    rename_i fn n sl x a b k rest hp nx
    split at h
    · rename_i e1
      simp only [Option.some.injEq, Prod.mk.injEq] at h; obtain ⟨rfl, rfl⟩ := h
      refine Run.step (fun β w fr frs cs hf hfs hs => ?_) hr
      refine ⟨β, w, fr.atR ⟨fr.tmps, dfr fn.dfs⟩ ((SI.code a :: k).map SI.item), frs, .one ?_, FrRel.of hf.fn hf.rnd hf.kind hf.size hf.slot hf.lt (add trivial (tl hf.ok)), hfs, hs⟩
      have he : Act.eval ⟨fr.tmps, dfr fn.dfs⟩ x = .bool true := ev_rel hf.rho e1
      have := hf.at
      rw [this]
      have := stepR_cond (P := P) (b := fr) (a := ⟨fr.tmps, dfr fn.dfs⟩) (k := k.map SI.item) (cs := frs ++ cs) (w := w) (x := a) (y := b) he
      exact this
    · rename_i e1
      simp only [Option.some.injEq, Prod.mk.injEq] at h; obtain ⟨rfl, rfl⟩ := h
      refine Run.step (fun β w fr frs cs hf hfs hs => ?_) hr
      refine ⟨β, w, fr.atR ⟨fr.tmps, dfr fn.dfs⟩ ((SI.code b :: k).map SI.item), frs, .one ?_, FrRel.of hf.fn hf.rnd hf.kind hf.size hf.slot hf.lt (add trivial (tl hf.ok)), hfs, hs⟩
      have he : Act.eval ⟨fr.tmps, dfr fn.dfs⟩ x = .bool false := ev_rel hf.rho e1
      have := hf.at
      rw [this]
      have := stepR_cond (P := P) (b := fr) (a := ⟨fr.tmps, dfr fn.dfs⟩) (k := k.map SI.item) (cs := frs ++ cs) (w := w) (x := a) (y := b) he
      exact this
    · cases h
  · cases hu : M.unr with
    | false => rw [hu] at h; cases h
    | true =>
      rw [hu] at h
      simp only [cond_true, Option.some.injEq, Prod.mk.injEq] at h; obtain ⟨rfl, rfl⟩ := h
      exact run_plain hr (fun _ _ _ _ => stepR_loop) (fun hh => add trivial (add trivial (tl hh)))
  · cases hu : M.unr with
    | false => rw [hu] at h; cases h
    | true =>
      rw [hu] at h
      simp only [cond_true, Option.some.injEq, Prod.mk.injEq] at h; obtain ⟨rfl, rfl⟩ := h
      exact run_plain hr (fun _ _ _ _ => stepR_inLoop) (fun hh => add trivial (add trivial (tl hh)))
  · split at h <;> first | exact (none_ne h).elim | skip
    rename_i k' e1
    simp only [Option.some.injEq, Prod.mk.injEq] at h; obtain ⟨rfl, rfl⟩ := h
    obtain ⟨h1, h2⟩ := exitS_spec e1
    exact run_plain hr (fun _ _ _ _ => stepR_exit h1) (fun hh y hy => tl hh y (h2 y hy))
  · simp only [Option.some.injEq, Prod.mk.injEq] at h; obtain ⟨rfl, rfl⟩ := h
    refine run_plain hr (fun _ _ _ _ => ?_) (fun hh => add (by intro i hi; simp at hi; simp [hi]) (tl hh))
    simp only [List.map_cons, SI.item, Array.length_toList, ← List.range_eq_range', Option.getD_none, List.append_nil]
    exact stepR_region
  · rename_i fn n sl ops i k rest hp nx
    have fin : ∀ {sl'}, (∀ t v, look t sl' = some v → look t sl = some v) → Run P ro B f R ⟨⟨fn, n, sl', k⟩, rest, hp, nx⟩ → Run P ro B f R ⟨⟨fn, n, sl, .reg ops i [] none :: k⟩, rest, hp, nx⟩ := by
      intro sl' hsub hr
      refine Run.step (fun β w fr frs cs hf hfs hs => ?_) hr
      refine ⟨β, w, fr.atR ⟨fr.tmps, dfr fn.dfs⟩ (k.map SI.item), frs, .one ?_, FrRel.of hf.fn hf.rnd hf.kind hf.size (fun t v e => hf.slot t v (hsub t v e)) (fun t v e => hf.lt t v (hsub t v e)) (tl hf.ok), hfs, hs⟩
      have := hf.at
      rw [this]
      exact stepR_region_end
    split at h
    · simp only [Option.some.injEq, Prod.mk.injEq] at h; obtain ⟨rfl, rfl⟩ := h
      exact fin (fun _ _ e => e) hr
    · split at h <;> first | exact (none_ne h).elim | skip
      rename_i e1
      simp only [Option.some.injEq, Prod.mk.injEq] at h; obtain ⟨rfl, rfl⟩ := h
      exact fin (fun _ _ e => thin_spec e1 e) hr
  · -- a return into a caller
    rename_i f' n sl td cfn cn csl ops i o cur tl' k rest hp nx
    split at h <;> first | exact (none_ne h).elim | skip
    rename_i cs1 v e1
    split at h <;> first | exact (none_ne h).elim | skip
    rename_i csl' e2
    simp only [Option.some.injEq, Prod.mk.injEq] at h; obtain ⟨rfl, rfl⟩ := h
    refine Run.step (fun β w fr frs cs hf hfs hs => ?_) hr
    cases hfs with
    | cons hc1 hfs' =>
    rename_i cfr frs'
    obtain ⟨fd, u, hfd, hres, hru⟩ := resV_run hs (hf.rho (ds := [])) e1 hc
    obtain ⟨ho, hok', hit⟩ := reg_ok (hc1.ok _ (List.mem_cons_self ..))
    obtain ⟨p1, p2, p3⟩ := put_spec (ds := dfr cfn.dfs) e2 hc1.size hc1.slot hc1.lt hru
    refine ⟨β, w, cfr.atR ⟨(Act.put ⟨cfr.tmps, dfr cfn.dfs⟩ o.dst u).tmps, dfr cfn.dfs⟩ ((SI.reg ops (i + 1) cur tl' :: k).map SI.item), frs', ?_, FrRel.of hc1.fn hc1.rnd hc1.kind p1 p3 p2 (add hok' (tl hc1.ok)), hfs', hs⟩
    have e3 := hf.at
    have e4 := hc1.at
    rw [e3]
    simp only [List.map_cons, List.map_nil, SI.item]
    refine Steps.head (stepR_ret (by exact hf.rnd)) (.one ?_)
    have hlv : Frame.leaving P ({ fr.atR ⟨fr.tmps, []⟩ (.code .ret :: td.map SI.item) with mode := .returning } : Frame) w (.returned u) :=
      ⟨rfl, rfl, hf.kind, fd, by show P.funcs[fr.fn]? = _; rw [hf.fn]; exact hfd, hres⟩
    have := step_leave_returned (c := cfr) (cs := frs' ++ cs) hlv
    rw [List.cons_append]
    refine Eq.trans this ?_
    congr 2
    rw [e4, ← put_eq]
    simp only [List.map_cons, hit]
    rw [Frame.finish_atR, ho]; rfl
  · -- a return into a caller
    rename_i f' n sl cfn cn csl ops i o cur tl' k rest hp nx
    split at h <;> first | exact (none_ne h).elim | skip
    rename_i cs1 v e1
    split at h <;> first | exact (none_ne h).elim | skip
    rename_i csl' e2
    simp only [Option.some.injEq, Prod.mk.injEq] at h; obtain ⟨rfl, rfl⟩ := h
    refine Run.step (fun β w fr frs cs hf hfs hs => ?_) hr
    cases hfs with
    | cons hc1 hfs' =>
    rename_i cfr frs'
    obtain ⟨fd, u, hfd, hres, hru⟩ := resV_run hs (hf.rho (ds := [])) e1 hc
    obtain ⟨ho, hok', hit⟩ := reg_ok (hc1.ok _ (List.mem_cons_self ..))
    obtain ⟨p1, p2, p3⟩ := put_spec (ds := dfr cfn.dfs) e2 hc1.size hc1.slot hc1.lt hru
    refine ⟨β, w, cfr.atR ⟨(Act.put ⟨cfr.tmps, dfr cfn.dfs⟩ o.dst u).tmps, dfr cfn.dfs⟩ ((SI.reg ops (i + 1) cur tl' :: k).map SI.item), frs', ?_, FrRel.of hc1.fn hc1.rnd hc1.kind p1 p3 p2 (add hok' (tl hc1.ok)), hfs', hs⟩
    have e3 := hf.at
    have e4 := hc1.at
    rw [e3]
    simp only [List.map_cons, List.map_nil, SI.item]
    refine Steps.head (stepR_end (by exact hf.rnd)) (.one ?_)
    have hlv : Frame.leaving P ({ fr.atR ⟨fr.tmps, []⟩ [] with mode := .returning } : Frame) w (.returned u) :=
      ⟨rfl, rfl, hf.kind, fd, by show P.funcs[fr.fn]? = _; rw [hf.fn]; exact hfd, hres⟩
    have := step_leave_returned (c := cfr) (cs := frs' ++ cs) hlv
    rw [List.cons_append]
    refine Eq.trans this ?_
    congr 2
    rw [e4, ← put_eq]
    simp only [List.map_cons, hit]
    rw [Frame.finish_atR, ho]; rfl
  · -- an operation
    rename_i fn n sl ops i o cur tl' k rest hp nx
    split at h <;> first | exact (none_ne h).elim | skip
    · -- it is passed over
      rename_i e0
      split at h <;> first | exact (none_ne h).elim | skip
      rename_i sl' e1
      simp only [Option.some.injEq, Prod.mk.injEq] at h; obtain ⟨rfl, rfl⟩ := h
      refine run_op hr e1 (fun β w tmps b k' fs r hn hsl hlt hs hk ho => ?_)
      have hw := guard_rel e0 hn hsl hlt
      exact ⟨β, w, undef, Env.le_refl _, hs, trivial, .one (op_pass ho hw)⟩
    · -- it may run
      rename_i g e0
      split at h
      · rename_i cs1 v e1
        split at h <;> first | exact (none_ne h).elim | skip
        rename_i sl' e2
        simp only [Option.some.injEq, Prod.mk.injEq] at h; obtain ⟨rfl, rfl⟩ := h
        refine run_op hr e2 (fun β w tmps b k' fs r hn hsl hlt hs hk ho => ?_)
        have hw := guard_rel e0 hn hsl hlt
        have hrho : Rho β sl (Act.eval ⟨tmps, dfr fn.dfs⟩) := ⟨hsl, fun _ => rfl, fun _ => rfl⟩
        cases g with
        | false => exact ⟨β, w, undef, Env.le_refl _, hs, ⟨fun e => Bool.noConfusion e, fun _ => rfl⟩, .one (op_pass ho hw)⟩
        | true =>
          have hc1 : All cs1 := fun p hp' => hc _ (List.mem_map_of_mem hp') rfl
          unfold quietAll at e1
          split at e1
          · rename_i q eq
            injection e1 with e1; subst e1
            obtain ⟨u, hu, hru⟩ := quiet_run (P := P) hs.toMem hrho eq hc1
            exact ⟨β, w, u, Env.le_refl _, hs, ⟨fun _ => hru, fun e => Bool.noConfusion e⟩, .one (op_value ho hw hu)⟩
          · obtain ⟨u, hu, hru⟩ := quiet2_run (P := P) (w := w) hrho e1 hc1
            exact ⟨β, w, u, Env.le_refl _, hs, ⟨fun _ => hru, fun e => Bool.noConfusion e⟩, .one (op_value ho hw hu)⟩
      · split at h <;> first | exact (none_ne h).elim | skip
        rename_i cs1 ff gg cc xs e1
        split at h <;> first | exact (none_ne h).elim | skip
        rename_i ds v e2
        split at h <;> first | exact (none_ne h).elim | skip
        rename_i sl' e3
        simp only [Option.some.injEq, Prod.mk.injEq] at h; obtain ⟨rfl, rfl⟩ := h
        refine run_op hr e3 (fun β w tmps b k' fs r hn hsl hlt hs hk ho => ?_)
        have hw := guard_rel e0 hn hsl hlt
        have hrho : Rho β sl (Act.eval ⟨tmps, dfr fn.dfs⟩) := ⟨hsl, fun _ => rfl, fun _ => rfl⟩
        cases g with
        | false => exact ⟨β, w, undef, Env.le_refl _, hs, ⟨fun e => Bool.noConfusion e, fun _ => rfl⟩, .one (op_pass ho hw)⟩
        | true =>
          have hc1 : All (cs1 ++ ds) := fun p hp' => hc _ (List.mem_map_of_mem hp') rfl
          obtain ⟨w', u, hbel, hru, hst⟩ := sum_steps hM hP hrho e1 e2 hc1.left hc1.right hw b k' fs r ho
          exact ⟨β, w', u, Env.le_refl _, hs.below hbel, ⟨fun _ => hru, fun e => Bool.noConfusion e⟩, hst⟩
    · -- it runs
      rename_i e0
      split at h
      · rename_i cs1 v e1
        split at h <;> first | exact (none_ne h).elim | skip
        rename_i sl' e2
        simp only [Option.some.injEq, Prod.mk.injEq] at h; obtain ⟨rfl, rfl⟩ := h
        refine run_op hr e2 (fun β w tmps b k' fs r hn hsl hlt hs hk ho => ?_)
        have hw := guard_rel e0 hn hsl hlt
        have hrho : Rho β sl (Act.eval ⟨tmps, dfr fn.dfs⟩) := ⟨hsl, fun _ => rfl, fun _ => rfl⟩
        unfold quietAll at e1
        split at e1
        · rename_i q eq
          injection e1 with e1; subst e1
          obtain ⟨u, hu, hru⟩ := quiet_run (P := P) hs.toMem hrho eq hc
          exact ⟨β, w, u, Env.le_refl _, hs, hru, .one (op_value ho hw hu)⟩
        · obtain ⟨u, hu, hru⟩ := quiet2_run (P := P) (w := w) hrho e1 hc
          exact ⟨β, w, u, Env.le_refl _, hs, hru, .one (op_value ho hw hu)⟩
      · split at h
        · rename_i v hp' nx' cs1 e1
          split at h <;> first | exact (none_ne h).elim | skip
          rename_i sl' e2
          rw [natF_eq] at h
          simp only [Option.some.injEq, Prod.mk.injEq] at h; obtain ⟨rfl, rfl⟩ := h
          refine run_op hr e2 (fun β w tmps b k' fs r hn hsl hlt hs hk ho => ?_)
          have hw := guard_rel e0 hn hsl hlt
          have hrho : Rho β sl (Act.eval ⟨tmps, dfr fn.dfs⟩) := ⟨hsl, fun _ => rfl, fun _ => rfl⟩
          obtain ⟨β', w', hle, hs', u, hu, hru⟩ := loud_run hs hB hrho e1 hc
          exact ⟨β', w', u, hle, hs', hru, .one (op_value ho hw hu)⟩
        · rename_i hp' nx' cs1 e1
          split at h <;> first | exact (none_ne h).elim | skip
          rename_i sl' e2
          rw [natF_eq] at h
          simp only [Option.some.injEq, Prod.mk.injEq] at h; obtain ⟨rfl, rfl⟩ := h
          refine run_op hr e2 (fun β w tmps b k' fs r hn hsl hlt hs hk ho => ?_)
          have hw := guard_rel e0 hn hsl hlt
          have hrho : Rho β sl (Act.eval ⟨tmps, dfr fn.dfs⟩) := ⟨hsl, fun _ => rfl, fun _ => rfl⟩
          obtain ⟨β', w', hle, hs', hu⟩ := loud_run hs hB hrho e1 hc
          exact ⟨β', w', undef, hle, hs', trivial, .one (op_unit ho hw hu)⟩
        · split at h <;> first | exact (none_ne h).elim | skip
          rename_i cs1 ff gg cc xs e1
          split at h
          · rename_i ds v e2
            split at h <;> first | exact (none_ne h).elim | skip
            rename_i sl' e3
            simp only [Option.some.injEq, Prod.mk.injEq] at h; obtain ⟨rfl, rfl⟩ := h
            refine run_op hr e3 (fun β w tmps b k' fs r hn hsl hlt hs hk ho => ?_)
            have hw := guard_rel e0 hn hsl hlt
            have hrho : Rho β sl (Act.eval ⟨tmps, dfr fn.dfs⟩) := ⟨hsl, fun _ => rfl, fun _ => rfl⟩
            obtain ⟨w', u, hbel, hru, hst⟩ := sum_steps hM hP hrho e1 e2 hc.left hc.right hw b k' fs r ho
            exact ⟨β, w', u, Env.le_refl _, hs.below hbel, hru, hst⟩
          · cases hin : M.inl ff with
            | false => rw [hin] at h; cases h
            | true =>
              rw [hin] at h
              simp only [cond_true, Option.some.injEq, Prod.mk.injEq] at h; obtain ⟨rfl, rfl⟩ := h
              refine Run.step (fun β w fr frs cs hf hfs hs => ?_) hr
              obtain ⟨ho, hok', hit⟩ := reg_ok (hf.ok _ (List.mem_cons_self ..))
              have hw := guard_rel e0 hf.size hf.slot (by rw [hf.size]; exact hf.lt)
              obtain ⟨hfn, hb, vs, hl, hrun⟩ := callee_run (w := w) hP hf.rho e1 hc
              refine ⟨β, w, Frame.enter P ff vs.toArray .normal, fr :: frs, .one ?_, enter_rel hfn hb hl, .cons hf hfs, hs⟩
              have e3 := hf.at
              have := op_enter (P := P) (b := fr) (a := ⟨fr.tmps, dfr fn.dfs⟩) (k := k.map SI.item) (cs := frs ++ cs) (w := w) (ops := ops) (i := i) (rest := List.range' (i + 1) cur.length ++ tl'.getD []) ho hw hrun
              rw [← hit] at this
              rw [List.cons_append]
              rw [e3]
              exact this
  · cases h
end
end Sx
