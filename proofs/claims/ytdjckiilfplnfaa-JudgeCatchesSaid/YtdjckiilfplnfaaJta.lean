/- What the tops of chapter 47's laws share: a history that came in. Conditions: as each theorem says. -/
import Derived.Test.YtdjckiilfplnfaaRows
import Derived.Test.YtdjckiilfplnfaaOwnX11
import Derived.Test.YtdjckiilfplnfaaEngX4
import Derived.WalkKit
import Derived.ProofKit
import Derived.OpenShut
import Derived.ChangeOld
import Derived.Below
import Derived.Lib.SmallJoins
import Derived.Laws.IdiomArrays
set_option linter.unusedSimpArgs false
set_option linter.unusedVariables false
namespace Go.Proofs.Ytdjckiilfplnfaa
open Go.ChangeShapes Go.WideShapes Go.ChangeAt Go.RowKit Go.Joins
theorem own' : ownKnob Try.prog.godebug = none := by kernel_rfl
theorem laidOut' : laidOutB Try.prog = true := by kernel_rfl
theorem cells3' : Try.prog.cellsOf 3 = 1 := by kernel_rfl
theorem cells4' : Try.prog.cellsOf 4 = 1 := by kernel_rfl
theorem cells23' : Try.prog.cellsOf 23 = 1 := by kernel_rfl
theorem wf_i64 {n : Int} (h : (Lit.int .i64 n).wf = true) : Sx.Fits .i64 n := by
  simp [Lit.wf, IntKind.min, IntKind.max, IntKind.signed, IntKind.bits] at h
  rw [Sx.Fits_i64]
  omega
theorem froz_max {H : Type} {enc : TypeId × Value → H} {w : World} {t e : TypeId} {fuel : Nat} {v : Value} {x : DataW H × List MemPlace} (ht : Try.prog.underlying t = some (.slice e)) (h : DataW.trod enc Try.prog w 0 (fun _ => true) true fuel t [v] = some x)
    {K : Sx.Kn} {n sz : Nat} {f : Nat → Nat → Sx.SV} (hF : Sx.Froz K v n sz f) : n ≤ 9223372036854775807 := by
  obtain ⟨base, room, e1, _, _⟩ := hF
  rcases Deep.open_slice ht h with ⟨hv, _⟩ | ⟨a, len, cap, m, n', D, Pl, hv, _, hl, hm, _⟩
  · obtain rfl : v = .slice none 0 0 := by simpa using hv
    simp at e1
    omega
  · obtain rfl : v = .slice (some a) len cap := by simpa using hv
    simp at e1
    have e : maxLen = 9223372036854775807 := by decide
    omega
/-- Numbers that came in. -/
theorem nums_arg {H : Type} {enc : TypeId × Value → H} {w : World} {v : Value} {x : DataW H × List MemPlace} {fuel : Nat} (h : DataW.trod enc Try.prog w 0 (fun _ => true) true fuel 23 [v] = some x) :
    ∃ (n : Nat) (l : Nat → Int), Sx.Froz (Sx.K0 w) v n 1 (Sx.urow l) ∧ (∀ i, i < n → Sx.Fits .i64 (l i)) ∧ n ≤ 9223372036854775807 := by
  obtain ⟨n, C, hC, hk⟩ := Sx.froz_of (sz := 1) Try.underlying23 cells3' (by decide) h
  have one : ∀ i, i < n → ∃ x : Int, C i = [.int .i64 x] ∧ Sx.Fits .i64 x := by
    intro i hi
    obtain ⟨m, y, hy⟩ := hC i hi
    obtain ⟨x, e, _, w0⟩ := DataW.trod_int Try.underlying3 hy
    exact ⟨x, e, wf_i64 w0⟩
  obtain ⟨l, hl⟩ := Deep.choose_lt one
  have hF := hk (Sx.urow l) (fun i k hi hk => by
    rw [(hl i hi).1]
    match k, hk with
    | 0, _ => exact ⟨_, rfl, rfl⟩)
  exact ⟨n, l, hF, fun i hi => (hl i hi).2, froz_max Try.underlying23 h hF⟩
end Go.Proofs.Ytdjckiilfplnfaa
