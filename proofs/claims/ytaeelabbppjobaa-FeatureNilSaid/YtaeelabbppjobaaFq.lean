/- What the laws' top frames share: the calls of a slice that came in. Conditions: as each theorem says. -/
import Derived.Test.YtaeelabbppjobaaRows
import Derived.Test.YtaeelabbppjobaaFp
import Derived.Test.YtaeelabbppjobaaEngX3
import Derived.WalkKit
import Derived.ProofKit
import Derived.OpenShut
import Derived.ChangeOld
import Derived.Below
import Derived.Lib.SmallJoins
set_option linter.unusedSimpArgs false
set_option linter.unusedVariables false
namespace Go.Proofs.Ytaeelabbppjobaa
open Go.ChangeShapes Go.WideShapes Go.ChangeAt Go.RowKit Go.Joins
theorem own' : ownKnob Try.prog.godebug = none := by kernel_rfl
theorem laidOut' : laidOutB Try.prog = true := by kernel_rfl
theorem cells40' : Try.prog.cellsOf 40 = 5 := by kernel_rfl
theorem trod_struct5 {H : Type} {enc : TypeId × Value → H} {P : Program} {w : World} {base : Nat} {spare : Nat → Bool} {held : Bool} {t : TypeId} {f0 f1 f2 f3 f4 : Field} {fuel : Nat} {cs : List Value} {x : DataW H × List MemPlace} (ht : P.underlying t = some (.struct #[f0, f1, f2, f3, f4])) (h : DataW.trod enc P w base spare held fuel t cs = some x) :
    ∃ y0 y1 y2 y3 y4 n, cs.length = P.cellsOf t ∧ DataW.trod enc P w base spare held n f0.type ((cs.drop f0.offset).take (P.cellsOf f0.type)) = some y0 ∧
      DataW.trod enc P w base spare held n f1.type ((cs.drop f1.offset).take (P.cellsOf f1.type)) = some y1 ∧ DataW.trod enc P w base spare held n f2.type ((cs.drop f2.offset).take (P.cellsOf f2.type)) = some y2 ∧
      DataW.trod enc P w base spare held n f3.type ((cs.drop f3.offset).take (P.cellsOf f3.type)) = some y3 ∧ DataW.trod enc P w base spare held n f4.type ((cs.drop f4.offset).take (P.cellsOf f4.type)) = some y4 := by
  obtain ⟨xs, n, _, rfl, hl, hlen, hf⟩ := DataW.trod_struct ht h
  match xs, hlen with
  | [y0, y1, y2, y3, y4], _ => exact ⟨y0, y1, y2, y3, y4, n, hl, by simpa using hf 0 f0 rfl, by simpa using hf 1 f1 rfl, by simpa using hf 2 f2 rfl, by simpa using hf 3 f3 rfl, by simpa using hf 4 f4 rfl⟩
theorem wf_u32 {n : Int} (h : (Lit.int .u32 n).wf = true) : 0 ≤ n ∧ n < 4294967296 := by
  simp [Lit.wf, IntKind.min, IntKind.max, IntKind.signed, IntKind.bits] at h
  omega
/-- The calls of a slice that came in. -/
theorem acts_of {H : Type} {enc : TypeId × Value → H} {w : World} {n : Nat} {C : Nat → List Value} (h : ∀ i, i < n → ∃ m y, DataW.trod (H := H) enc Try.prog w 0 (fun _ => true) true m 40 (C i) = some y) :
    ∃ l : Nat → Sx.AC, (∀ i, i < n → (l i).ok) ∧ ∀ i k, i < n → k < 5 → ∃ u, (C i)[k]? = some u ∧ ∀ β, Sx.Rel β (Sx.ak l i k) u := by
  have one : ∀ i, i < n → ∃ x : Sx.AC, x.ok ∧ C i = [.int .i64 x.k, .int .u8 x.id, .int .u32 x.v, .bool x.sv, .int .u64 x.h] := by
    intro i hi
    obtain ⟨m, y, hy⟩ := h i hi
    obtain ⟨y0, y1, y2, y3, y4, m', hl, g0, g1, g2, g3, g4⟩ := trod_struct5 Try.underlying40 hy
    rw [cells40'] at hl
    obtain ⟨c0, c1, c2, c3, c4, e⟩ : ∃ c0 c1 c2 c3 c4, C i = [c0, c1, c2, c3, c4] := by
      match C i, hl with
      | [c0, c1, c2, c3, c4], _ => exact ⟨c0, c1, c2, c3, c4, rfl⟩
    rw [e] at g0 g1 g2 g3 g4
    obtain ⟨a0, e0, _, _⟩ := DataW.trod_int Try.underlying3 g0
    obtain ⟨a1, e1, _, _⟩ := DataW.trod_int Try.underlying5 g1
    obtain ⟨a2, e2, _, w2⟩ := DataW.trod_int Try.underlying30 g2
    obtain ⟨a3, e3, _⟩ := DataW.trod_bool Try.underlying4 g3
    obtain ⟨a4, e4, _, _⟩ := DataW.trod_int Try.underlying33 g4
    have hc3 : Try.prog.cellsOf 3 = 1 := by kernel_rfl
    have hc5 : Try.prog.cellsOf 5 = 1 := by kernel_rfl
    have hc30 : Try.prog.cellsOf 30 = 1 := by kernel_rfl
    have hc4 : Try.prog.cellsOf 4 = 1 := by kernel_rfl
    have hc33 : Try.prog.cellsOf 33 = 1 := by kernel_rfl
    simp [hc3, hc5, hc30, hc4, hc33] at e0 e1 e2 e3 e4
    exact ⟨⟨a0, a1, a2, a3, a4⟩, wf_u32 w2, by rw [e, e0, e1, e2, e3, e4]⟩
  haveI : Inhabited Sx.AC := ⟨⟨0, 0, 0, false, 0⟩⟩
  obtain ⟨l, hl⟩ := Deep.choose_lt one
  refine ⟨l, fun i hi => (hl i hi).1, fun i k hi hk => ?_⟩
  rw [(hl i hi).2]
  match k, hk with
  | 0, _ => exact ⟨_, rfl, fun _ => rfl⟩
  | 1, _ => exact ⟨_, rfl, fun _ => rfl⟩
  | 2, _ => exact ⟨_, rfl, fun _ => rfl⟩
  | 3, _ => exact ⟨_, rfl, fun _ => rfl⟩
  | 4, _ => exact ⟨_, rfl, fun _ => rfl⟩
theorem below_of {w : World} {β : Sx.Env} {ro : Sx.Hp} {e : Ending} {w' : World} {n : Nat} (h : Sx.HEnd β (Sx.Base.all w) ro (fun _ : Unit => True) (fun _ => ⟨.tt, [], n⟩) e w') : e = .returned (.bool true) ∧ Below w.heap.size w w' := by
  obtain ⟨z, β', u, _, _, rfl, hu, hs⟩ := h
  have hu : u = .bool true := hu
  subst hu
  exact ⟨rfl, hs.below_all⟩
/-- A slice of calls, opened. -/
theorem acts_arg {H : Type} {enc : TypeId × Value → H} {w : World} {v : Value} {x : DataW H × List MemPlace} {fuel : Nat} (h : DataW.trod enc Try.prog w 0 (fun _ => true) true fuel 24 [v] = some x) :
    ∃ (off n : Nat) (l : Nat → Sx.AC) (β : Sx.Env), (∀ i, i < n → (l i).ok) ∧ Sx.Rel β (.sq 0 off 0 5 n .no) v ∧ Sx.Sat β [] (Sx.actH off n l) (Sx.Base.all w) 1 w := by
  obtain ⟨off, n, C, hC, hk⟩ := Sx.slice_arg (sz := 5) Try.underlying24 cells40' (by decide) h
  obtain ⟨l, hl, hc⟩ := acts_of hC
  obtain ⟨β, hr, hs⟩ := hk (Sx.ak l) hc
  exact ⟨off, n, l, β, hl, hr, hs⟩
end Go.Proofs.Ytaeelabbppjobaa
