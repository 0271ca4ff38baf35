/- A call that came in, opened. Conditions: as each theorem says. -/
import Derived.Test.YtkoeikjcnancdaaAad
set_option linter.unusedSimpArgs false
set_option linter.unusedVariables false
namespace Go.Proofs.Ytkoeikjcnancdaa
open Go.ChangeShapes Go.WideShapes Go.ChangeAt Go.RowKit Go.Joins
theorem cells54' : Try.prog.cellsOf 54 = 9 := by kernel_rfl
theorem cells23' : Try.prog.cellsOf 23 = 5 := by kernel_rfl
theorem cells31' : Try.prog.cellsOf 31 = 1 := by kernel_rfl
theorem cells33' : Try.prog.cellsOf 33 = 1 := by kernel_rfl
theorem cells4' : Try.prog.cellsOf 4 = 1 := by kernel_rfl
set_option maxRecDepth 100000 in
theorem act_cells {H : Type} {enc : TypeId × Value → H} {w : World} {m : Nat} {C : List Value} {y : DataW H × List MemPlace} (h : DataW.trod enc Try.prog w 0 (fun _ => true) true m 54 C = some y) :
    ∃ (k q c : Int) (w0 : Bool) (b hi me lo : Int) (v : Value) (fuel : Nat) (x : DataW H × List MemPlace), C = [.int .i64 k, .int .i64 q, .int .i64 c, .bool w0, .int .i64 b, .int .i64 hi, .int .i64 me, .int .i64 lo, v] ∧
      DataW.trod enc Try.prog w 0 (fun _ => true) true fuel 31 [v] = some x := by
  obtain ⟨y0, y1, y2, y3, y4, n, hl, g0, g1, g2, g3, g4⟩ := trod_struct5 Try.underlying54 h
  rw [cells54'] at hl
  obtain ⟨c0, c1, c2, c3, c4, c5, c6, c7, c8, rfl⟩ : ∃ c0 c1 c2 c3 c4 c5 c6 c7 c8, C = [c0, c1, c2, c3, c4, c5, c6, c7, c8] := by
    match C, hl with
    | [c0, c1, c2, c3, c4, c5, c6, c7, c8], _ => exact ⟨c0, c1, c2, c3, c4, c5, c6, c7, c8, rfl⟩
  obtain ⟨a0, e0, _, _⟩ := DataW.trod_int Try.underlying3 g0
  obtain ⟨a1, e1, _, _⟩ := DataW.trod_int Try.underlying3 g1
  obtain ⟨a2, e2, _, _⟩ := DataW.trod_int Try.underlying33 g2
  obtain ⟨z0, z1, z2, z3, z4, n', _, f0, f1, f2, f3, f4⟩ := trod_struct5 Try.underlying23 g3
  obtain ⟨b0, d0, _⟩ := DataW.trod_bool Try.underlying4 f0
  obtain ⟨b1, d1, _, _⟩ := DataW.trod_int Try.underlying3 f1
  obtain ⟨b2, d2, _, _⟩ := DataW.trod_int Try.underlying3 f2
  obtain ⟨b3, d3, _, _⟩ := DataW.trod_int Try.underlying3 f3
  obtain ⟨b4, d4, _, _⟩ := DataW.trod_int Try.underlying3 f4
  simp [cells3', cells33', cells4', cells23'] at e0 e1 e2 d0 d1 d2 d3 d4
  subst e0 e1 e2 d0 d1 d2 d3 d4
  refine ⟨a0, a1, a2, b0, b1, b2, b3, b4, c8, n, y4, rfl, ?_⟩
  simpa [cells31'] using g4
end Go.Proofs.Ytkoeikjcnancdaa
