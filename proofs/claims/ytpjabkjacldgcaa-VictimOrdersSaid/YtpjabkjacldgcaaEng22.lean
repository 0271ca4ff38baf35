/- A call by its callee's word on the blocks. No condition. -/
import Derived.Test.YtpjabkjacldgcaaEng21
namespace Sx
open Go

section
variable {P : Program} {ro : Hp} {B : Base} {f : FuncId} {R : Ending → World → Prop}

/-- The next operation of a region gives a value, one of those that z tells. -/
theorem run_opz {Z : Type} {G : Z → Prop} {sz : Z → SV} {hpz : Z → Hp} {nxz : Z → Nat} {fn : FId} {n : Nat} {sl : Slots} {ops : Array Oper} {i : Nat} {o : Oper} {cur : List Oper} {tl : Option (List Nat)} {k : List SI} {rest : List SFr} {hp : Hp} {nx : Nat}
    (h : ∀ z, G z → ∃ sl', put o.dst (sz z) n sl = some sl' ∧ Run P ro B f R ⟨⟨fn, n, sl', .reg ops (i + 1) cur tl :: k⟩, rest, hpz z, nxz z⟩)
    (hop : ∀ (β : Env) (w : World) (tmps : Array Value) (b : Frame) (k : List Item) (cs : List Frame) (r : List Nat), tmps.size = n → (∀ t v, look t sl = some v → Rel β v (tmps.getD t undef)) →
      (∀ t v, look t sl = some v → t < tmps.size) → Sat β hp ro B nx w → b.kind = .normal → ops[i]? = some o →
      ∃ (z : Z) (β' : Env) (w' : World) (v : Value), G z ∧ β.le β' ∧ Sat β' (hpz z) ro B (nxz z) w' ∧ Rel β' (sz z) v ∧
        Steps P (lone (b.atR ⟨tmps, dfr fn.dfs⟩ (.inRegion ops (i :: r) :: k)) cs w) (lone (b.atR (Act.put ⟨tmps, dfr fn.dfs⟩ o.dst v) (.inRegion ops r :: k)) cs w')) :
    Run P ro B f R ⟨⟨fn, n, sl, .reg ops i (o :: cur) tl :: k⟩, rest, hp, nx⟩ := by
  intro β w fr frs cs hf hfs hs
  have hrok := hf.ok _ (List.mem_cons_self ..)
  obtain ⟨ho, hok', hit⟩ := reg_ok hrok
  obtain ⟨z, β', w', v, hz, hle, hs', hv, hst⟩ := hop β w fr.tmps fr (k.map SI.item) (frs ++ cs) (List.range' (i + 1) cur.length ++ tl.getD []) hf.size hf.slot (by rw [hf.size]; exact hf.lt) hs hf.kind ho
  obtain ⟨sl', hput, hr⟩ := h z hz
  obtain ⟨p1, p2, p3⟩ := put_spec (β := β') hput hf.size (fun t v e => Rel.mono hle _ _ (hf.slot t v e)) hf.lt hv
  obtain ⟨e, w2, fr2, hR, hc, r⟩ := hr β' w' (fr.atR ⟨(Act.put ⟨fr.tmps, dfr fn.dfs⟩ o.dst v).tmps, dfr fn.dfs⟩ ((SI.reg ops (i + 1) cur tl :: k).map SI.item)) frs cs (FrRel.of hf.fn hf.rnd hf.kind p1 p3 p2 (by
    intro x hx
    cases hx with
    | head => exact hok'
    | tail _ hm => exact hf.ok x (List.mem_cons_of_mem _ hm))) (hfs.mono hle) hs'
  refine ⟨e, w2, fr2, hR, .of_steps ?_ hc, r⟩
  have := hf.at
  rw [this, ← put_eq]
  simp only [List.map_cons, hit]
  exact hst

theorem run_call {ι : Type} {g : Nat} {xs : List SV} {hpc roc : Hp} {nxc : Nat} {ψ : ι → Prop} {out : ι → Out} (hHC : HC P g xs hpc roc nxc ψ out) (hP : Named P) (hB : B.ok) (sg : List Nat)
    {fn : FId} {n : Nat} {sl : Slots} {ops : Array Oper} {i : Nat} {o : Oper} {cur : List Oper} {tl : Option (List Nat)} {k : List SI} {rest : List SFr} {hp : Hp} {nx : Nat} {cs0 cs1 cs2 cs3 : List Prop} {gf : Func} {gb : Code} {as : List SV}
    (hgd : guardIn ops sl o = some .run) (hcal : callee P sl o.op = some (cs0, g, gf, gb, as)) (hl : sg.length = nxc) (hcov : cover (hkeys hpc ++ hkeys roc) nxc = true) (hlt : allLt nx sg = true)
    (hargs : renFL nx sg xs (fun ys => eqL ys as) = some cs1) (h2 : hpM nx sg hp hpc = some cs2) (h2' : orM nx sg hp ro roc = some cs3) (h3 : dist nx sg (hkeys hpc ++ hkeys roc) = true)
    (hc0 : conj cs0) (hc1 : conj cs1) (hc2 : conj cs2) (hc3 : conj cs3)
    (h : ∀ z, ψ z → nxc ≤ (out z).nx ∧ ∃ sl' hp' nx', put o.dst (ren nx sg (out z).r) n sl = some sl' ∧ callH nx sg ((hkeys hpc).map (sig nx sg)) (out z).hp hp = some hp' ∧ natF (nx + ((out z).nx - nxc)) some = some nx' ∧
      Run P ro B f R ⟨⟨fn, n, sl', .reg ops (i + 1) cur tl :: k⟩, rest, hp', nx'⟩) :
    Run P ro B f R ⟨⟨fn, n, sl, .reg ops i (o :: cur) tl :: k⟩, rest, hp, nx⟩ := by
  subst hl
  refine run_opz (G := fun z => ψ z) (sz := fun z => ren nx sg (out z).r) (hpz := fun z => renH' nx sg (hdrop' ((hkeys hpc).map (sig nx sg)) hp) (out z).hp) (nxz := fun z => nx + ((out z).nx - sg.length)) ?_ ?_
  · intro z hz
    obtain ⟨h0, sl', hp', nx', e1, e2, e3, hr⟩ := h z hz
    have e2 := callH_eq e2
    rw [natF_eq] at e3
    injection e3 with e3
    subst e2 e3
    exact ⟨sl', e1, hr⟩
  · intro β w tmps b k' fs r hn hsl hlt' hs hk ho
    have hw := guard_rel hgd hn hsl hlt'
    have hrho : Rho β sl (Act.eval ⟨tmps, dfr fn.dfs⟩) := ⟨hsl, fun _ => rfl, fun _ => rfl⟩
    obtain ⟨hfn, hb, vs, hvl, hrun⟩ := callee_run (w := w) hP hrho hcal (all_conj hc0)
    obtain ⟨B1, hB1, hs1, hback⟩ := hs.called hB hlt hcov h2 h2' h3 (all_conj hc2) (all_conj hc3)
    rw [renFL_eq] at hargs
    have hxs : RelL (β.via nx sg) xs vs := (renL_rel _ _).1 (eqL_less _ _ _ hargs (all_conj hc1) β vs hvl)
    have hcall := hHC B1 (β.via nx sg) w vs hB1 hxs hs1
    have hst := op_enter (P := P) (b := b) (a := ⟨tmps, dfr fn.dfs⟩) (k := k') (cs := fs) (w := w) (ops := ops) (i := i) (rest := r) ho hw hrun
    obtain ⟨e, w', fr', ⟨z, β2, u, hz, hle2, rfl, hu, hs2⟩, hco, _, hlv⟩ := hcall (b.atR ⟨tmps, dfr fn.dfs⟩ (.inRegion ops (i :: r) :: k') :: fs)
    obtain ⟨β'', g1, g2, g3⟩ := hback β2 w' _ _ hle2 hs2 (h z hz).1
    refine ⟨z, β'', w', u, hz, g1, g3, g2 _ _ hu, (Steps.one hst).trans (Steps.trans hco (.one ?_))⟩
    have hfin : (b.atR ⟨tmps, dfr fn.dfs⟩ (.inRegion ops (i :: r) :: k')).finish u = b.atR (Act.put ⟨tmps, dfr fn.dfs⟩ o.dst u) (.inRegion ops r :: k') := by rw [Frame.finish_atR, ho]; rfl
    rw [← hfin]
    exact step_leave_returned hlv
end
end Sx
