/- What the laws' top frames share: slices that came in. Conditions: as each theorem says. -/
import Derived.Test.YtdphonnleoklgaaRows
import Derived.Test.YtdphonnleoklgaaMe
import Derived.Test.YtdphonnleoklgaaEngX5
import Derived.WalkKit
import Derived.ProofKit
import Derived.OpenShut
import Derived.ChangeOld
import Derived.Below
import Derived.Lib.SmallJoins
set_option linter.unusedSimpArgs false
set_option linter.unusedVariables false
namespace Go.Proofs.Ytdphonnleoklgaa
open Go.ChangeShapes Go.WideShapes Go.ChangeAt Go.RowKit Go.Joins
theorem own' : ownKnob Try.prog.godebug = none := by kernel_rfl
theorem laidOut' : laidOutB Try.prog = true := by kernel_rfl
theorem cells54' : Try.prog.cellsOf 54 = 2 := by kernel_rfl
theorem cells31' : Try.prog.cellsOf 31 = 1 := by kernel_rfl
theorem cells3' : Try.prog.cellsOf 3 = 1 := by kernel_rfl
theorem trod_struct2 {H : Type} {enc : TypeId × Value → H} {P : Program} {w : World} {base : Nat} {spare : Nat → Bool} {held : Bool} {t : TypeId} {f0 f1 : Field} {fuel : Nat} {cs : List Value} {x : DataW H × List MemPlace} (ht : P.underlying t = some (.struct #[f0, f1])) (h : DataW.trod enc P w base spare held fuel t cs = some x) :
    ∃ y0 y1 n, cs.length = P.cellsOf t ∧ DataW.trod enc P w base spare held n f0.type ((cs.drop f0.offset).take (P.cellsOf f0.type)) = some y0 ∧
      DataW.trod enc P w base spare held n f1.type ((cs.drop f1.offset).take (P.cellsOf f1.type)) = some y1 := by
  obtain ⟨xs, n, _, rfl, hl, hlen, hf⟩ := DataW.trod_struct ht h
  match xs, hlen with
  | [y0, y1], _ => exact ⟨y0, y1, n, hl, by simpa using hf 0 f0 rfl, by simpa using hf 1 f1 rfl⟩
theorem loads_of {H : Type} {enc : TypeId × Value → H} {w : World} {n : Nat} {C : Nat → List Value} (h : ∀ i, i < n → ∃ m y, DataW.trod (H := H) enc Try.prog w 0 (fun _ => true) true m 54 (C i) = some y) :
    ∃ l : Sx.Ld, l.length = n ∧ ∀ i k, i < n → k < 2 → ∃ u, (C i)[k]? = some u ∧ Sx.Rel Sx.Env.nil (Sx.ldr l i k) u := by
  have one : ∀ i, i < n → ∃ x : Int × Int, C i = [.int .i64 x.1, .int .i64 x.2] := by
    intro i hi
    obtain ⟨m, y, hy⟩ := h i hi
    obtain ⟨y0, y1, m', hl, g0, g1⟩ := trod_struct2 Try.underlying54 hy
    rw [cells54'] at hl
    obtain ⟨c0, c1, e⟩ : ∃ c0 c1, C i = [c0, c1] := by
      match C i, hl with
      | [c0, c1], _ => exact ⟨c0, c1, rfl⟩
    rw [e] at g0 g1
    obtain ⟨a0, e0, _, _⟩ := DataW.trod_int Try.underlying3 g0
    obtain ⟨a1, e1, _, _⟩ := DataW.trod_int Try.underlying3 g1
    simp [cells3'] at e0 e1
    exact ⟨⟨a0, a1⟩, by rw [e, e0, e1]⟩
  obtain ⟨l, hl⟩ := Deep.choose_lt one
  refine ⟨(List.range n).map l, by simp, fun i k hi hk => ?_⟩
  rw [hl i hi]
  match k, hk with
  | 0, _ => exact ⟨_, rfl, by simp [Sx.ldr, hi, Sx.Rel]⟩
  | 1, _ => exact ⟨_, rfl, by simp [Sx.ldr, hi, Sx.Rel]⟩
/-- A slice of entries, known for good. -/
theorem entry_arg {H : Type} {enc : TypeId × Value → H} {w : World} {v : Value} {x : DataW H × List MemPlace} {fuel : Nat} (h : DataW.trod enc Try.prog w 0 (fun _ => true) true fuel 31 [v] = some x) : ∃ l : Sx.Ld, Sx.Froz (Sx.K0 w) v l.length 2 (Sx.ldr l) := by
  obtain ⟨n, C, hC, hk⟩ := Sx.froz_of (sz := 2) Try.underlying31 cells54' (by decide) h
  obtain ⟨l, hl, hc⟩ := loads_of hC
  subst hl
  exact ⟨l, hk _ hc⟩
/-- A slice of slices of entries, opened. -/
theorem calls_arg {H : Type} {enc : TypeId × Value → H} {w : World} {v : Value} {x : DataW H × List MemPlace} {fuel : Nat} (h : DataW.trod enc Try.prog w 0 (fun _ => true) true fuel 22 [v] = some x) :
    ∃ (off m : Nat) (V : Nat → Value) (E : Nat → Sx.Ld) (β : Sx.Env), Sx.Rel β (.sq 0 off 0 1 m .no) v ∧ Sx.Sat β [] (Sx.inRo off m V) (Sx.Base.all w) 1 w ∧ Sx.KIn (Sx.K0 w) m V E := by
  obtain ⟨off, n, C, hC, hk⟩ := Sx.slice_arg (sz := 1) Try.underlying22 cells31' (by decide) h
  have one : ∀ i, i < n → ∃ p : Value × Sx.Ld, C i = [p.1] ∧ p.1.oneCell' = true ∧ Sx.Froz (Sx.K0 w) p.1 p.2.length 2 (Sx.ldr p.2) := by
    intro i hi
    obtain ⟨m, y, hy⟩ := hC i hi
    obtain ⟨u, e, ho⟩ := Sx.slice_one Try.underlying31 hy
    rw [e] at hy
    obtain ⟨l, hl⟩ := entry_arg hy
    exact ⟨(u, l), e, ho, hl⟩
  have : Inhabited (Value × Sx.Ld) := ⟨(.slice none 0 0, [])⟩
  obtain ⟨p, hp⟩ := Deep.choose_lt one
  obtain ⟨β, hr, hs⟩ := hk (Sx.valR fun i => (p i).1) (fun i k hi hk => by
    obtain ⟨h1, h2, _⟩ := hp i hi
    rw [h1]
    match k, hk with
    | 0, _ => exact ⟨_, rfl, fun _ => ⟨rfl, h2⟩⟩)
  exact ⟨off, n, fun i => (p i).1, fun i => (p i).2, β, hr, hs, fun i hi => (hp i hi).2.2⟩
end Go.Proofs.Ytdphonnleoklgaa
