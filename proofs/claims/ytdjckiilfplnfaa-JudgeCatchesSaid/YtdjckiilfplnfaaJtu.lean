/- What the tops of JudgeSequential and JudgeCatches share: acts that came in. Conditions: as each theorem says. -/
import Derived.Test.YtdjckiilfplnfaaJta
import Derived.Test.YtdjckiilfplnfaaJsim
import Derived.Test.YtdjckiilfplnfaaEngX4
import Derived.WalkKit
import Derived.ProofKit
import Derived.OpenShut
import Derived.ChangeOld
import Derived.Below
import Derived.Lib.SmallJoins
import Derived.Laws.IdiomArrays
set_option linter.unusedSimpArgs false
set_option linter.unusedVariables false
namespace Go.Proofs.Ytdjckiilfplnfaa
open Go.ChangeShapes Go.WideShapes Go.ChangeAt Go.RowKit Go.Joins
theorem trod_struct5 {H : Type} {enc : TypeId × Value → H} {P : Program} {w : World} {base : Nat} {spare : Nat → Bool} {held : Bool} {t : TypeId} {f0 f1 f2 f3 f4 : Field} {fuel : Nat} {cs : List Value} {x : DataW H × List MemPlace} (ht : P.underlying t = some (.struct #[f0, f1, f2, f3, f4])) (h : DataW.trod enc P w base spare held fuel t cs = some x) :
    ∃ y0 y1 y2 y3 y4 n, cs.length = P.cellsOf t ∧ DataW.trod enc P w base spare held n f0.type ((cs.drop f0.offset).take (P.cellsOf f0.type)) = some y0 ∧ DataW.trod enc P w base spare held n f1.type ((cs.drop f1.offset).take (P.cellsOf f1.type)) = some y1 ∧ DataW.trod enc P w base spare held n f2.type ((cs.drop f2.offset).take (P.cellsOf f2.type)) = some y2 ∧ DataW.trod enc P w base spare held n f3.type ((cs.drop f3.offset).take (P.cellsOf f3.type)) = some y3 ∧ DataW.trod enc P w base spare held n f4.type ((cs.drop f4.offset).take (P.cellsOf f4.type)) = some y4 := by
  obtain ⟨xs, n, _, rfl, hl, hlen, hf⟩ := DataW.trod_struct ht h
  match xs, hlen with
  | [y0, y1, y2, y3, y4], _ => exact ⟨y0, y1, y2, y3, y4, n, hl, by simpa using hf 0 f0 rfl, by simpa using hf 1 f1 rfl, by simpa using hf 2 f2 rfl, by simpa using hf 3 f3 rfl, by simpa using hf 4 f4 rfl⟩
theorem cells75' : Try.prog.cellsOf 75 = 5 := by kernel_rfl
/-- Acts that came in. -/
theorem acts_arg {H : Type} {enc : TypeId × Value → H} {w : World} {v : Value} {x : DataW H × List MemPlace} {fuel : Nat} (h : DataW.trod enc Try.prog w 0 (fun _ => true) true fuel 44 [v] = some x) :
    ∃ (n : Nat) (a : Nat → Sx.AC) (V : Nat → Value), Sx.Froz (Sx.K0 w) v n 5 (Sx.arw a V) ∧ (∀ i, i < n → Sx.Froz (Sx.K0 w) (V i) (a i).n 1 (Sx.urow (a i).v)) ∧ (∀ i, i < n → Sx.Fits .i64 (a i).f ∧ Sx.Fits .i64 (a i).kp ∧ (a i).n ≤ 9223372036854775807 ∧ ∀ q, q < (a i).n → Sx.Fits .i64 ((a i).v q)) ∧ (∀ i, i < n → Sx.Fits .i64 (a i).k) ∧ n ≤ 9223372036854775807 := by
  obtain ⟨n, C, hC, hk⟩ := Sx.froz_of (sz := 5) Try.underlying44 cells75' (by decide) h
  have one : ∀ i, i < n → ∃ p : Sx.AC × Value, C i = [.int .i64 p.1.k, .int .i64 p.1.f, p.2, .bool p.1.fo, .int .i64 p.1.kp] ∧ p.2.oneCell' = true ∧ Sx.Froz (Sx.K0 w) p.2 p.1.n 1 (Sx.urow p.1.v) ∧ (∀ k, k < p.1.n → Sx.Fits .i64 (p.1.v k)) ∧ Sx.Fits .i64 p.1.f ∧ Sx.Fits .i64 p.1.kp ∧ p.1.n ≤ 9223372036854775807 ∧ Sx.Fits .i64 p.1.k := by
    intro i hi
    obtain ⟨m, y, hy⟩ := hC i hi
    obtain ⟨y0, y1, y2, y3, y4, m', hl, g0, g1, g2, g3, g4⟩ := trod_struct5 Try.underlying75 hy
    rw [cells75'] at hl
    obtain ⟨c0, c1, c2, c3, c4, e⟩ : ∃ c0 c1 c2 c3 c4, C i = [c0, c1, c2, c3, c4] := by
      match C i, hl with
      | [c0, c1, c2, c3, c4], _ => exact ⟨c0, c1, c2, c3, c4, rfl⟩
    rw [e] at g0 g1 g2 g3 g4
    obtain ⟨a0, e0, _, w0⟩ := DataW.trod_int Try.underlying3 g0
    obtain ⟨a1, e1, _, w1⟩ := DataW.trod_int Try.underlying3 g1
    obtain ⟨a3, e3, _⟩ := DataW.trod_bool Try.underlying4 g3
    obtain ⟨a4, e4, _, w4⟩ := DataW.trod_int Try.underlying3 g4
    simp [cells3', cells4'] at e0 e1 e3 e4
    simp [cells3', cells4', cells23'] at g2
    obtain ⟨v'', hv', hone⟩ := Sx.slice_one Try.underlying23 g2
    obtain rfl : c2 = v'' := by simpa using hv'
    obtain ⟨q, l, hF, hr, hm⟩ := nums_arg g2
    exact ⟨(⟨a0, a1, q, l, a3, a4⟩, c2), by rw [e, e0, e1, e3, e4], hone, hF, hr, wf_i64 w1, wf_i64 w4, hm, wf_i64 w0⟩
  have : Inhabited (Sx.AC × Value) := ⟨(⟨0, 0, 0, fun _ => 0, false, 0⟩, .slice none 0 0)⟩
  obtain ⟨p, hp⟩ := Deep.choose_lt one
  have hF := hk (Sx.arw (fun i => (p i).1) fun i => (p i).2) (fun i k hi hk => by
    rw [(hp i hi).1]
    unfold Sx.arw
    match k, hk with
    | 0, _ => exact ⟨_, rfl, rfl⟩
    | 1, _ => exact ⟨_, rfl, rfl⟩
    | 2, _ => exact ⟨_, rfl, rfl, (hp i hi).2.1⟩
    | 3, _ => exact ⟨_, rfl, rfl⟩
    | 4, _ => exact ⟨_, rfl, rfl⟩)
  exact ⟨n, fun i => (p i).1, fun i => (p i).2, hF, fun i hi => (hp i hi).2.2.1, fun i hi => ⟨(hp i hi).2.2.2.2.1, (hp i hi).2.2.2.2.2.1, (hp i hi).2.2.2.2.2.2.1, (hp i hi).2.2.2.1⟩, fun i hi => (hp i hi).2.2.2.2.2.2.2, froz_max Try.underlying44 h hF⟩
end Go.Proofs.Ytdjckiilfplnfaa
