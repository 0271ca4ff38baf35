/- What the laws' top frames share: slices that came in. Conditions: as each theorem says. -/
import Derived.Test.YtkoeikjcnancdaaRows
import Derived.Test.YtkoeikjcnancdaaAv
import Derived.Test.YtkoeikjcnancdaaEngX3
import Derived.WalkKit
import Derived.ProofKit
import Derived.OpenShut
import Derived.ChangeOld
import Derived.Below
import Derived.Lib.SmallJoins
set_option linter.unusedSimpArgs false
set_option linter.unusedVariables false
namespace Go.Proofs.Ytkoeikjcnancdaa
open Go.ChangeShapes Go.WideShapes Go.ChangeAt Go.RowKit Go.Joins
theorem own' : ownKnob Try.prog.godebug = none := by kernel_rfl
theorem laidOut' : laidOutB Try.prog = true := by kernel_rfl
theorem cells35' : Try.prog.cellsOf 35 = 2 := by kernel_rfl
theorem cells3' : Try.prog.cellsOf 3 = 1 := by kernel_rfl
theorem trod_struct2 {H : Type} {enc : TypeId × Value → H} {P : Program} {w : World} {base : Nat} {spare : Nat → Bool} {held : Bool} {t : TypeId} {f0 f1 : Field} {fuel : Nat} {cs : List Value} {x : DataW H × List MemPlace} (ht : P.underlying t = some (.struct #[f0, f1])) (h : DataW.trod enc P w base spare held fuel t cs = some x) :
    ∃ y0 y1 n, cs.length = P.cellsOf t ∧ DataW.trod enc P w base spare held n f0.type ((cs.drop f0.offset).take (P.cellsOf f0.type)) = some y0 ∧
      DataW.trod enc P w base spare held n f1.type ((cs.drop f1.offset).take (P.cellsOf f1.type)) = some y1 := by
  obtain ⟨xs, n, _, rfl, hl, hlen, hf⟩ := DataW.trod_struct ht h
  match xs, hlen with
  | [y0, y1], _ => exact ⟨y0, y1, n, hl, by simpa using hf 0 f0 rfl, by simpa using hf 1 f1 rfl⟩
theorem ints_of {H : Type} {enc : TypeId × Value → H} {w : World} {n : Nat} {C : Nat → List Value} (h : ∀ i, i < n → ∃ m y, DataW.trod (H := H) enc Try.prog w 0 (fun _ => true) true m 3 (C i) = some y) :
    ∃ l : Nat → Int, ∀ i k, i < n → k < 1 → ∃ u, (C i)[k]? = some u ∧ ∀ β, Sx.Rel β (Sx.nr .i64 l i k) u := by
  have one : ∀ i, i < n → ∃ x : Int, C i = [.int .i64 x] := by
    intro i hi
    obtain ⟨m, y, hy⟩ := h i hi
    obtain ⟨a0, e0, _, _⟩ := DataW.trod_int Try.underlying3 hy
    exact ⟨a0, e0⟩
  obtain ⟨l, hl⟩ := Deep.choose_lt one
  refine ⟨l, fun i k hi hk => ?_⟩
  rw [hl i hi]
  match k, hk with
  | 0, _ => exact ⟨_, rfl, fun _ => rfl⟩
theorem loads_of {H : Type} {enc : TypeId × Value → H} {w : World} {n : Nat} {C : Nat → List Value} (h : ∀ i, i < n → ∃ m y, DataW.trod (H := H) enc Try.prog w 0 (fun _ => true) true m 35 (C i) = some y) :
    ∃ l : Sx.Ld, l.length = n ∧ ∀ i k, i < n → k < 2 → ∃ u, (C i)[k]? = some u ∧ ∀ β, Sx.Rel β (Sx.ldr l i k) u := by
  have one : ∀ i, i < n → ∃ x : Int × Int, C i = [.int .i64 x.1, .int .i64 x.2] := by
    intro i hi
    obtain ⟨m, y, hy⟩ := h i hi
    obtain ⟨y0, y1, m', hl, g0, g1⟩ := trod_struct2 Try.underlying35 hy
    rw [cells35'] at hl
    obtain ⟨c0, c1, e⟩ : ∃ c0 c1, C i = [c0, c1] := by
      match C i, hl with
      | [c0, c1], _ => exact ⟨c0, c1, rfl⟩
    rw [e] at g0 g1
    obtain ⟨a0, e0, _, _⟩ := DataW.trod_int Try.underlying3 g0
    obtain ⟨a1, e1, _, _⟩ := DataW.trod_int Try.underlying3 g1
    simp [cells3'] at e0 e1
    exact ⟨⟨a0, a1⟩, by rw [e, e0, e1]⟩
  obtain ⟨l, hl⟩ := Deep.choose_lt one
  refine ⟨(List.range n).map l, by simp, fun i k hi hk => ?_⟩
  rw [hl i hi]
  match k, hk with
  | 0, _ => exact ⟨_, rfl, fun _ => by simp [Sx.ldr, hi, Sx.Rel]⟩
  | 1, _ => exact ⟨_, rfl, fun _ => by simp [Sx.ldr, hi, Sx.Rel]⟩
theorem below_of {w : World} {β : Sx.Env} {ro : Sx.Hp} {e : Ending} {w' : World} {n : Nat} (h : Sx.HEnd β (Sx.Base.all w) ro (fun _ : Unit => True) (fun _ => ⟨.tt, [], n⟩) e w') : e = .returned (.bool true) ∧ Below w.heap.size w w' := by
  obtain ⟨z, β', u, _, _, rfl, hu, hs⟩ := h
  have hu : u = .bool true := hu
  subst hu
  exact ⟨rfl, hs.below_all⟩
/-- A slice of integers, opened. -/
theorem ints_arg {H : Type} {enc : TypeId × Value → H} {w : World} {v : Value} {x : DataW H × List MemPlace} {fuel : Nat} (h : DataW.trod enc Try.prog w 0 (fun _ => true) true fuel 39 [v] = some x) :
    ∃ (off n : Nat) (l : Nat → Int) (β : Sx.Env), Sx.Rel β (.sq 0 off 0 1 n .no) v ∧ Sx.Sat β [] [(0, .row off n n 1 (Sx.nr .i64 l) Sx.anyTy)] (Sx.Base.all w) 1 w := by
  obtain ⟨off, n, C, hC, hk⟩ := Sx.slice_arg (sz := 1) Try.underlying39 cells3' (by decide) h
  obtain ⟨l, hc⟩ := ints_of hC
  obtain ⟨β, hr, hs⟩ := hk (Sx.nr .i64 l) hc
  exact ⟨off, n, l, β, hr, hs⟩
/-- A slice of loads, opened. -/
theorem loads_arg {H : Type} {enc : TypeId × Value → H} {w : World} {v : Value} {x : DataW H × List MemPlace} {fuel : Nat} (h : DataW.trod enc Try.prog w 0 (fun _ => true) true fuel 31 [v] = some x) :
    ∃ (off : Nat) (l : Sx.Ld) (β : Sx.Env), Sx.Rel β (.sq 0 off 0 2 l.length .no) v ∧ Sx.Sat β [] [(0, .row off l.length l.length 2 (Sx.ldr l) Sx.anyTy)] (Sx.Base.all w) 1 w := by
  obtain ⟨off, n, C, hC, hk⟩ := Sx.slice_arg (sz := 2) Try.underlying31 cells35' (by decide) h
  obtain ⟨l, hl, hc⟩ := loads_of hC
  obtain ⟨β, hr, hs⟩ := hk (Sx.ldr l) hc
  subst hl
  exact ⟨off, l, β, hr, hs⟩
end Go.Proofs.Ytkoeikjcnancdaa
