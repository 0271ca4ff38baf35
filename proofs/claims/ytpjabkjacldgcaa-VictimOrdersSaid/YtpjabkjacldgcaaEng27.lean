/- The rules of Eng20 to Eng26 with their conditions gathered. No condition. -/
import Derived.Test.YtpjabkjacldgcaaEng26
namespace Sx
open Go

theorem conj_append : ∀ {a b : List Prop}, conj (a ++ b) → conj a ∧ conj b
  | [], b, h => ⟨trivial, h⟩
  | p :: a, b, h => by obtain ⟨h1, h2⟩ := h; obtain ⟨h3, h4⟩ := conj_append h2; exact ⟨⟨h1, h3⟩, h4⟩
def weakC (nx : Nat) (sg : List Nat) (np : Nat) (ro : Hp) (sl sl' : Slots) (rest rest' : List SFr) (hp hp' : Hp) : Option (List Prop) :=
  bif dist nx sg (hkeys hp') && idTo nx sg np then match slM nx sg sl sl', rsM nx sg rest rest', hpM nx sg hp hp', roM nx sg ro with
    | some a, some b, some c, some d => some (a ++ (b ++ (c ++ d)))
    | _, _, _, _ => none
    else none
def retC (nx : Nat) (sg : List Nat) (np : Nat) (ro hp : Hp) (o : Out) (v : SV) : Option (List Prop) :=
  bif dist nx sg (hkeys o.hp) && idTo nx sg np then match renF nx sg o.r (fun v' => eqV v' v), hpM nx sg hp o.hp, roM nx sg ro with
    | some a, some b, some c => some (a ++ (b ++ c))
    | _, _, _ => none
    else none
def callC (nx : Nat) (sg : List Nat) (nxc : Nat) (xs as : List SV) (hpc roc hp ro : Hp) : Option (List Prop) :=
  bif cover (hkeys hpc ++ hkeys roc) nxc && allLt nx sg && dist nx sg (hkeys hpc ++ hkeys roc) then match renFL nx sg xs (fun ys => eqL ys as), hpM nx sg hp hpc, orM nx sg hp ro roc with
    | some a, some b, some c => some (a ++ (b ++ c))
    | _, _, _ => none
    else none

section
variable {P : Program} {ro : Hp} {B : Base} {f : FuncId} {R : Ending → World → Prop}
theorem run_to {np : Nat} (hpin : PinTo B np) (sg : List Nat) {fn : FId} {n : Nat} {sl sl' : Slots} {td : List SI} {rest rest' : List SFr} {hp hp' : Hp} {nx nx' : Nat} {cs : List Prop} (hl : sg.length = nx')
    (h : weakC nx sg np ro sl sl' rest rest' hp hp' = some cs) (hc : conj cs) (hr : Run P ro B f R ⟨⟨fn, n, sl', td⟩, rest', hp', nx'⟩) : Run P ro B f R ⟨⟨fn, n, sl, td⟩, rest, hp, nx⟩ := by
  unfold weakC at h
  cases hb : (dist nx sg (hkeys hp') && idTo nx sg np) with
  | false => rw [hb] at h; cases h
  | true =>
  rw [hb] at h; simp only [cond_true] at h
  simp only [Bool.and_eq_true] at hb
  split at h <;> first | exact (none_ne h).elim | skip
  rename_i a b c d e1 e2 e3 e4
  injection h with h; subst h
  obtain ⟨h1, h2⟩ := conj_append hc
  obtain ⟨h2, h3⟩ := conj_append h2
  obtain ⟨h3, h4⟩ := conj_append h3
  exact run_weakF hpin sg hl e1 e2 e3 hb.1 e4 hb.2 h1 h2 h3 h4 hr

/-- An invariant I over x; μ goes down. -/
theorem run_inv {ι : Type} {np : Nat} (hpin : PinTo B np) (I : ι → Prop) (μ : ι → Nat) (slI : ι → Slots) (rsI : ι → List SFr) (hpI : ι → Hp) (nxI : Nat) (x0 : ι) (h0 : I x0) (sg : List Nat)
    {fn : FId} {n : Nat} {sl : Slots} {td : List SI} {rest : List SFr} {hp : Hp} {nx : Nat} {cs : List Prop} (hl : sg.length = nxI) (h : weakC nx sg np ro sl (slI x0) rest (rsI x0) hp (hpI x0) = some cs) (hc : conj cs)
    (step : ∀ x, I x → (∀ y, I y → μ y < μ x → Run P ro B f R ⟨⟨fn, n, slI y, td⟩, rsI y, hpI y, nxI⟩) → Run P ro B f R ⟨⟨fn, n, slI x, td⟩, rsI x, hpI x, nxI⟩) :
    Run P ro B f R ⟨⟨fn, n, sl, td⟩, rest, hp, nx⟩ := by
  refine run_to hpin sg hl h hc ?_
  have all : ∀ (m : Nat) (x : ι), μ x < m → I x → Run P ro B f R ⟨⟨fn, n, slI x, td⟩, rsI x, hpI x, nxI⟩ := by
    intro m
    induction m with
    | zero => intro x hx; omega
    | succ m ih => exact fun x hx hI => step x hI (fun y hy hlt => ih y (by omega) hy)
  exact all (μ x0 + 1) x0 (by omega) h0

theorem run_callC {ι : Type} {g : Nat} {xs : List SV} {hpc roc : Hp} {nxc : Nat} {ψ : ι → Prop} {out : ι → Out} (hHC : HC P g xs hpc roc nxc ψ out) (hP : Named P) (hB : B.ok) (sg : List Nat)
    {fn : FId} {n : Nat} {sl : Slots} {ops : Array Oper} {i : Nat} {o : Oper} {cur : List Oper} {tl : Option (List Nat)} {k : List SI} {rest : List SFr} {hp : Hp} {nx : Nat} {cs0 cs1 : List Prop} {gf : Func} {gb : Code} {as : List SV}
    (hgd : guardIn ops sl o = some .run) (hcal : callee P sl o.op = some (cs0, g, gf, gb, as)) (hl : sg.length = nxc) (hk : callC nx sg nxc xs as hpc roc hp ro = some cs1) (hc0 : conj cs0) (hc1 : conj cs1)
    (h : ∀ z, ψ z → nxc ≤ (out z).nx ∧ ∃ sl' hp' nx', put o.dst (ren nx sg (out z).r) n sl = some sl' ∧ callH nx sg ((hkeys hpc).map (sig nx sg)) (out z).hp hp = some hp' ∧ natF (nx + ((out z).nx - nxc)) some = some nx' ∧
      Run P ro B f R ⟨⟨fn, n, sl', .reg ops (i + 1) cur tl :: k⟩, rest, hp', nx'⟩) :
    Run P ro B f R ⟨⟨fn, n, sl, .reg ops i (o :: cur) tl :: k⟩, rest, hp, nx⟩ := by
  unfold callC at hk
  cases hb : (cover (hkeys hpc ++ hkeys roc) nxc && allLt nx sg && dist nx sg (hkeys hpc ++ hkeys roc)) with
  | false => rw [hb] at hk; cases hk
  | true =>
  rw [hb] at hk; simp only [cond_true] at hk
  simp only [Bool.and_eq_true] at hb
  split at hk <;> first | exact (none_ne hk).elim | skip
  rename_i a b c e1 e2 e3
  injection hk with hk; subst hk
  obtain ⟨h1, h2⟩ := conj_append hc1
  obtain ⟨h2, h3⟩ := conj_append h2
  exact run_call hHC hP hB sg hgd hcal hl hb.1.1 hb.1.2 e1 e2 e3 hb.2 hc0 h1 h2 h3 h
end
section
variable {ι : Type} {P : Program} {ro : Hp} {B : Base} {f : FuncId} {ψ : ι → Prop} {out : ι → Out}
theorem run_retC {np : Nat} (hpin : PinTo B np) (z : ι) (hψ : ψ z) (sg : List Nat) {n : Nat} {sl : Slots} {td : List SI} {hp : Hp} {nx : Nat} {cs ds : List Prop} {v : SV} (hl : sg.length = (out z).nx) (hv : resV P f sl hp ro = some (cs, v)) (hc : conj cs)
    (hk : retC nx sg np ro hp (out z) v = some ds) (hds : conj ds) : Run P ro B f (HEnd B.pin B ro ψ out) ⟨⟨fid f, n, sl, .code .ret :: td⟩, [], hp, nx⟩ := by
  unfold retC at hk
  cases hb : (dist nx sg (hkeys (out z).hp) && idTo nx sg np) with
  | false => rw [hb] at hk; cases hk
  | true =>
  rw [hb] at hk; simp only [cond_true] at hk
  simp only [Bool.and_eq_true] at hb
  split at hk <;> first | exact (none_ne hk).elim | skip
  rename_i a b c e1 e2 e3
  injection hk with hk; subst hk
  obtain ⟨h1, h2⟩ := conj_append hds
  obtain ⟨h2, h3⟩ := conj_append h2
  exact run_hret hpin z hψ sg hl hv e1 e2 hb.1 e3 hb.2 hc h1 h2 h3
theorem run_endC {np : Nat} (hpin : PinTo B np) (z : ι) (hψ : ψ z) (sg : List Nat) {n : Nat} {sl : Slots} {hp : Hp} {nx : Nat} {cs ds : List Prop} {v : SV} (hl : sg.length = (out z).nx) (hv : resV P f sl hp ro = some (cs, v)) (hc : conj cs)
    (hk : retC nx sg np ro hp (out z) v = some ds) (hds : conj ds) : Run P ro B f (HEnd B.pin B ro ψ out) ⟨⟨fid f, n, sl, []⟩, [], hp, nx⟩ := by
  unfold retC at hk
  cases hb : (dist nx sg (hkeys (out z).hp) && idTo nx sg np) with
  | false => rw [hb] at hk; cases hk
  | true =>
  rw [hb] at hk; simp only [cond_true] at hk
  simp only [Bool.and_eq_true] at hb
  split at hk <;> first | exact (none_ne hk).elim | skip
  rename_i a b c e1 e2 e3
  injection hk with hk; subst hk
  obtain ⟨h1, h2⟩ := conj_append hds
  obtain ⟨h2, h3⟩ := conj_append h2
  exact run_hend hpin z hψ sg hl hv e1 e2 hb.1 e3 hb.2 hc h1 h2 h3
end
theorem conj_nil : conj [] := trivial
end Sx
