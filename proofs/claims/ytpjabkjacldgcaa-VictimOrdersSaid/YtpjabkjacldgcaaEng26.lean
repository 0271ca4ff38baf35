/- A configuration may be forgotten in part, the frames below too. No condition. -/
import Derived.Test.YtpjabkjacldgcaaEng25
namespace Sx
open Go

def rsM (nx : Nat) (sg : List Nat) : List SFr → List SFr → Option (List Prop)
  | [], [] => some []
  | ⟨fn, n, sl, td⟩ :: r, ⟨fn', n', sl', td'⟩ :: r' => match slM nx sg sl sl', rsM nx sg r r' with
    | some x, some y => some ((fn = fn' ∧ n = n' ∧ td = td') :: x ++ y)
    | _, _ => none
  | _, _ => none
theorem rsM_rel {nx : Nat} {sg : List Nat} {β : Env} : ∀ {r r' : List SFr} {cs : List Prop} {frs : List Frame}, rsM nx sg r r' = some cs → All cs → FsRel β r frs → FsRel (β.via nx sg) r' frs
  | [], [], cs, frs, h, hc, hf => by cases hf; exact .nil
  | ⟨fn, n, sl, td⟩ :: r, ⟨fn', n', sl', td'⟩ :: r', cs, frs, h, hc, hf => by
    simp only [rsM] at h
    split at h <;> first | exact (none_ne h).elim | skip
    rename_i x y e1 e2
    injection h with h; subst h
    obtain ⟨rfl, rfl, rfl⟩ := hc.head
    cases hf with
    | cons h1 h2 =>
    have hx : All x := fun p hp => hc p (List.mem_cons_of_mem _ (List.mem_append_left _ hp))
    have hy : All y := fun p hp => hc p (List.mem_cons_of_mem _ (List.mem_append_right _ hp))
    refine .cons ⟨h1.fn, h1.size, fun t v hv => ?_, fun t v hv => ?_, h1.todo, h1.ok, h1.defers, h1.mode, h1.kind, h1.rnd⟩ (rsM_rel e2 hy h2)
    · obtain ⟨u, g1, g2⟩ := slM_spec e1 hx hv
      exact (ren_rel _ _).1 (g2 _ _ (h1.slot t u g1))
    · obtain ⟨u, g1, g2⟩ := slM_spec e1 hx hv
      exact h1.lt t u g1
  | [], _ :: _, _, _, h, _, _ => by cases h
  | _ :: _, [], _, _, h, _, _ => by cases h

section
variable {P : Program} {ro : Hp} {B : Base} {f : FuncId} {R : Ending → World → Prop}
theorem run_weakF {np : Nat} (hpin : PinTo B np) (sg : List Nat) {fn : FId} {n : Nat} {sl sl' : Slots} {td : List SI} {rest rest' : List SFr} {hp hp' : Hp} {nx nx' : Nat} {cs ds es rs : List Prop} (hl : sg.length = nx')
    (h1 : slM nx sg sl sl' = some cs) (hr : rsM nx sg rest rest' = some rs) (h2 : hpM nx sg hp hp' = some ds) (h3 : dist nx sg (hkeys hp') = true) (h4 : roM nx sg ro = some es) (h5 : idTo nx sg np = true) (hcs : conj cs) (hrs : conj rs) (hds : conj ds) (hes : conj es)
    (h : Run P ro B f R ⟨⟨fn, n, sl', td⟩, rest', hp', nx'⟩) : Run P ro B f R ⟨⟨fn, n, sl, td⟩, rest, hp, nx⟩ := by
  subst hl
  intro β w fr frs cs' hf hfs hs
  refine h (β.via nx sg) w fr frs cs' ⟨hf.fn, hf.size, ?_, ?_, hf.todo, hf.ok, hf.defers, hf.mode, hf.kind, hf.rnd⟩ (rsM_rel hr (all_conj hrs) hfs) (Sat.rename hpin h2 h3 h4 h5 (all_conj hds) (all_conj hes) hs)
  · intro t v hv
    obtain ⟨u, e1, e2⟩ := slM_spec h1 (all_conj hcs) hv
    exact (ren_rel _ _).1 (e2 _ _ (hf.slot t u e1))
  · intro t v hv
    obtain ⟨u, e1, e2⟩ := slM_spec h1 (all_conj hcs) hv
    exact hf.lt t u e1
theorem run_heap {c : SFr} {rest : List SFr} {hp hp' : Hp} {nx : Nat} (e : hp = hp') (h : Run P ro B f R ⟨c, rest, hp', nx⟩) : Run P ro B f R ⟨c, rest, hp, nx⟩ := e ▸ h
end
end Sx
