/- What the tops of chapter 47's laws share: a history that came in. Conditions: as each theorem says. -/
import Derived.Test.YtdjckiilfplnfaaRows
import Derived.Test.YtdjckiilfplnfaaJza
import Derived.Test.YtdjckiilfplnfaaEngX4
import Derived.WalkKit
import Derived.ProofKit
import Derived.OpenShut
import Derived.ChangeOld
import Derived.Below
import Derived.Lib.SmallJoins
import Derived.Laws.IdiomArrays
set_option linter.unusedSimpArgs false
set_option linter.unusedVariables false
namespace Go.Proofs.Ytdjckiilfplnfaa
open Go.ChangeShapes Go.WideShapes Go.ChangeAt Go.RowKit Go.Joins
theorem own' : ownKnob Try.prog.godebug = none := by kernel_rfl
theorem laidOut' : laidOutB Try.prog = true := by kernel_rfl
theorem trod_struct4 {H : Type} {enc : TypeId × Value → H} {P : Program} {w : World} {base : Nat} {spare : Nat → Bool} {held : Bool} {t : TypeId} {f0 f1 f2 f3 : Field} {fuel : Nat} {cs : List Value} {x : DataW H × List MemPlace} (ht : P.underlying t = some (.struct #[f0, f1, f2, f3])) (h : DataW.trod enc P w base spare held fuel t cs = some x) :
    ∃ y0 y1 y2 y3 n, cs.length = P.cellsOf t ∧ DataW.trod enc P w base spare held n f0.type ((cs.drop f0.offset).take (P.cellsOf f0.type)) = some y0 ∧ DataW.trod enc P w base spare held n f1.type ((cs.drop f1.offset).take (P.cellsOf f1.type)) = some y1 ∧ DataW.trod enc P w base spare held n f2.type ((cs.drop f2.offset).take (P.cellsOf f2.type)) = some y2 ∧ DataW.trod enc P w base spare held n f3.type ((cs.drop f3.offset).take (P.cellsOf f3.type)) = some y3 := by
  obtain ⟨xs, n, _, rfl, hl, hlen, hf⟩ := DataW.trod_struct ht h
  match xs, hlen with
  | [y0, y1, y2, y3], _ => exact ⟨y0, y1, y2, y3, n, hl, by simpa using hf 0 f0 rfl, by simpa using hf 1 f1 rfl, by simpa using hf 2 f2 rfl, by simpa using hf 3 f3 rfl⟩
theorem array4 {α : Type} {cs : Array α} (h : cs.size = 4) : ∃ c0 c1 c2 c3, cs = #[c0, c1, c2, c3] := by
  obtain ⟨l⟩ := cs
  match l, h with
  | [c0, c1, c2, c3], _ => exact ⟨c0, c1, c2, c3, rfl⟩
theorem open_agg4 {H : Type} {enc : TypeId × Value → H} {P : Program} {w : World} {base : Nat} {spare : Nat → Bool} {held : Bool} {r : Reach} {b0 : Nat} {t : TypeId} {f0 f1 f2 f3 : Field} {v : Value} {d : DataW H} {p : List MemPlace} (hs : P.underlying t = some (.struct #[f0, f1, f2, f3])) (hone : Go.Deep.oneCellFields P #[f0, f1, f2, f3] = true) (hC : P.cellsOf t = 4)
    (hv : Value.okWide P w r b0 t v) (h : DataW.Trod enc P w base spare held t v d p) :
    ∃ (v0 v1 v2 v3 : Value) (y0 y1 y2 y3 : DataW H × List MemPlace) (n : Nat), v = .agg #[v0, v1, v2, v3] ∧ True ∧ True ∧ DataW.trod enc P w base spare held n f0.type [v0] = some y0 ∧ DataW.trod enc P w base spare held n f1.type [v1] = some y1 ∧ DataW.trod enc P w base spare held n f2.type [v2] = some y2 ∧ DataW.trod enc P w base spare held n f3.type [v3] = some y3 := by
  obtain ⟨cs, rfl, hsz⟩ := okWide_struct hs hv
  obtain ⟨c0, c1, c2, c3, rfl⟩ := array4 (hsz.trans hC)
  obtain ⟨fuel, hf⟩ := h
  obtain ⟨y0, y1, y2, y3, n, _, h0, h1, h2, h3⟩ := trod_struct4 hs hf
  obtain ⟨o0, k0⟩ := Go.Deep.hone_of hone 0 f0 rfl
  obtain ⟨o1, k1⟩ := Go.Deep.hone_of hone 1 f1 rfl
  obtain ⟨o2, k2⟩ := Go.Deep.hone_of hone 2 f2 rfl
  obtain ⟨o3, k3⟩ := Go.Deep.hone_of hone 3 f3 rfl
  exact ⟨c0, c1, c2, c3, y0, y1, y2, y3, n, rfl, trivial, trivial, by simpa [Value.cells, o0, k0] using h0, by simpa [Value.cells, o1, k1] using h1, by simpa [Value.cells, o2, k2] using h2, by simpa [Value.cells, o3, k3] using h3⟩
theorem trod_struct6 {H : Type} {enc : TypeId × Value → H} {P : Program} {w : World} {base : Nat} {spare : Nat → Bool} {held : Bool} {t : TypeId} {f0 f1 f2 f3 f4 f5 : Field} {fuel : Nat} {cs : List Value} {x : DataW H × List MemPlace} (ht : P.underlying t = some (.struct #[f0, f1, f2, f3, f4, f5])) (h : DataW.trod enc P w base spare held fuel t cs = some x) :
    ∃ y0 y1 y2 y3 y4 y5 n, cs.length = P.cellsOf t ∧ DataW.trod enc P w base spare held n f0.type ((cs.drop f0.offset).take (P.cellsOf f0.type)) = some y0 ∧ DataW.trod enc P w base spare held n f1.type ((cs.drop f1.offset).take (P.cellsOf f1.type)) = some y1 ∧ DataW.trod enc P w base spare held n f2.type ((cs.drop f2.offset).take (P.cellsOf f2.type)) = some y2 ∧ DataW.trod enc P w base spare held n f3.type ((cs.drop f3.offset).take (P.cellsOf f3.type)) = some y3 ∧ DataW.trod enc P w base spare held n f4.type ((cs.drop f4.offset).take (P.cellsOf f4.type)) = some y4 ∧ DataW.trod enc P w base spare held n f5.type ((cs.drop f5.offset).take (P.cellsOf f5.type)) = some y5 := by
  obtain ⟨xs, n, _, rfl, hl, hlen, hf⟩ := DataW.trod_struct ht h
  match xs, hlen with
  | [y0, y1, y2, y3, y4, y5], _ => exact ⟨y0, y1, y2, y3, y4, y5, n, hl, by simpa using hf 0 f0 rfl, by simpa using hf 1 f1 rfl, by simpa using hf 2 f2 rfl, by simpa using hf 3 f3 rfl, by simpa using hf 4 f4 rfl, by simpa using hf 5 f5 rfl⟩
theorem cells39' : Try.prog.cellsOf 39 = 6 := by kernel_rfl
theorem cells3' : Try.prog.cellsOf 3 = 1 := by kernel_rfl
theorem cells4' : Try.prog.cellsOf 4 = 1 := by kernel_rfl
theorem cells23' : Try.prog.cellsOf 23 = 1 := by kernel_rfl
theorem cells37' : Try.prog.cellsOf 37 = 1 := by kernel_rfl
theorem wf_i64 {n : Int} (h : (Lit.int .i64 n).wf = true) : Sx.Fits .i64 n := by
  simp [Lit.wf, IntKind.min, IntKind.max, IntKind.signed, IntKind.bits] at h
  rw [Sx.Fits_i64]
  omega
theorem froz_max {H : Type} {enc : TypeId × Value → H} {w : World} {t e : TypeId} {fuel : Nat} {v : Value} {x : DataW H × List MemPlace} (ht : Try.prog.underlying t = some (.slice e)) (h : DataW.trod enc Try.prog w 0 (fun _ => true) true fuel t [v] = some x)
    {K : Sx.Kn} {n sz : Nat} {f : Nat → Nat → Sx.SV} (hF : Sx.Froz K v n sz f) : n ≤ 9223372036854775807 := by
  obtain ⟨base, room, e1, _, _⟩ := hF
  rcases Deep.open_slice ht h with ⟨hv, _⟩ | ⟨a, len, cap, m, n', D, Pl, hv, _, hl, hm, _⟩
  · obtain rfl : v = .slice none 0 0 := by simpa using hv
    simp at e1
    omega
  · obtain rfl : v = .slice (some a) len cap := by simpa using hv
    simp at e1
    have e : maxLen = 9223372036854775807 := by decide
    omega
/-- Numbers that came in. -/
theorem nums_arg {H : Type} {enc : TypeId × Value → H} {w : World} {v : Value} {x : DataW H × List MemPlace} {fuel : Nat} (h : DataW.trod enc Try.prog w 0 (fun _ => true) true fuel 23 [v] = some x) :
    ∃ (n : Nat) (l : Nat → Int), Sx.Froz (Sx.K0 w) v n 1 (Sx.urow l) ∧ (∀ i, i < n → Sx.Fits .i64 (l i)) ∧ n ≤ 9223372036854775807 := by
  obtain ⟨n, C, hC, hk⟩ := Sx.froz_of (sz := 1) Try.underlying23 cells3' (by decide) h
  have one : ∀ i, i < n → ∃ x : Int, C i = [.int .i64 x] ∧ Sx.Fits .i64 x := by
    intro i hi
    obtain ⟨m, y, hy⟩ := hC i hi
    obtain ⟨x, e, _, w0⟩ := DataW.trod_int Try.underlying3 hy
    exact ⟨x, e, wf_i64 w0⟩
  obtain ⟨l, hl⟩ := Deep.choose_lt one
  have hF := hk (Sx.urow l) (fun i k hi hk => by
    rw [(hl i hi).1]
    match k, hk with
    | 0, _ => exact ⟨_, rfl, rfl⟩)
  exact ⟨n, l, hF, fun i hi => (hl i hi).2, froz_max Try.underlying23 h hF⟩
/-- A history that came in. -/
theorem hist_arg {H : Type} {enc : TypeId × Value → H} {w : World} {a b : Int} {v v' : Value} {x x' : DataW H × List MemPlace} {fuel fuel' : Nat} (ha : (Lit.int .i64 a).wf = true) (hb : (Lit.int .i64 b).wf = true) (h : DataW.trod enc Try.prog w 0 (fun _ => true) true fuel 22 [v] = some x) (h' : DataW.trod enc Try.prog w 0 (fun _ => true) true fuel' 23 [v'] = some x') :
    ∃ (A : Sx.Hi) (V : Nat → Value), A.unit = a ∧ A.blocks = b ∧ Sx.ARG (Sx.K0 w) A v v' V := by
  obtain ⟨nc, c, hcF, _, hcm⟩ := nums_arg h'
  obtain ⟨n, C, hC, hk⟩ := Sx.froz_of (sz := 6) Try.underlying22 cells39' (by decide) h
  have one : ∀ i, i < n → ∃ p : Sx.HO × Value, C i = [.int .i64 p.1.k, .int .i64 p.1.f, p.2, .int .i64 p.1.b, .int .i64 p.1.e, .bool p.1.fo] ∧ p.2.oneCell' = true ∧ Sx.Froz (Sx.K0 w) p.2 p.1.n 1 (Sx.urow p.1.v) ∧ (∀ k, k < p.1.n → Sx.Fits .i64 (p.1.v k)) ∧ Sx.Fits .i64 p.1.f ∧ Sx.Fits .i64 p.1.b ∧ Sx.Fits .i64 p.1.e := by
    intro i hi
    obtain ⟨m, y, hy⟩ := hC i hi
    obtain ⟨y0, y1, y2, y3, y4, y5, m', hl, g0, g1, g2, g3, g4, g5⟩ := trod_struct6 Try.underlying39 hy
    rw [cells39'] at hl
    obtain ⟨c0, c1, c2, c3, c4, c5, e⟩ : ∃ c0 c1 c2 c3 c4 c5, C i = [c0, c1, c2, c3, c4, c5] := by
      match C i, hl with
      | [c0, c1, c2, c3, c4, c5], _ => exact ⟨c0, c1, c2, c3, c4, c5, rfl⟩
    rw [e] at g0 g1 g2 g3 g4 g5
    obtain ⟨a0, e0, _, _⟩ := DataW.trod_int Try.underlying37 g0
    obtain ⟨a1, e1, _, w1⟩ := DataW.trod_int Try.underlying3 g1
    obtain ⟨a3, e3, _, w3⟩ := DataW.trod_int Try.underlying3 g3
    obtain ⟨a4, e4, _, w4⟩ := DataW.trod_int Try.underlying3 g4
    obtain ⟨a5, e5, _⟩ := DataW.trod_bool Try.underlying4 g5
    simp [cells3', cells37', cells4'] at e0 e1 e3 e4 e5
    simp [cells3', cells37', cells4', cells23'] at g2
    obtain ⟨v'', hv', hone⟩ := Sx.slice_one Try.underlying23 g2
    obtain rfl : c2 = v'' := by simpa using hv'
    obtain ⟨q, l, hF, hr, _⟩ := nums_arg g2
    exact ⟨(⟨a0, a1, q, l, a3, a4, a5⟩, c2), by rw [e, e0, e1, e3, e4, e5], hone, hF, hr, wf_i64 w1, wf_i64 w3, wf_i64 w4⟩
  have : Inhabited (Sx.HO × Value) := ⟨(⟨0, 0, 0, fun _ => 0, 0, 0, false⟩, .slice none 0 0)⟩
  obtain ⟨p, hp⟩ := Deep.choose_lt one
  let A : Sx.Hi := ⟨a, b, n, fun i => if i < n then (p i).1 else ⟨0, 0, 0, fun _ => 0, 0, 0, false⟩, nc, c⟩
  have hop : ∀ i, i < n → A.op i = (p i).1 := fun i hi => if_pos hi
  have hF := hk (Sx.orow A fun i => (p i).2) (fun i k hi hk => by
    rw [(hp i hi).1]
    unfold Sx.orow
    rw [hop i hi]
    match k, hk with
    | 0, _ => exact ⟨_, rfl, rfl⟩
    | 1, _ => exact ⟨_, rfl, rfl⟩
    | 2, _ => exact ⟨_, rfl, rfl, (hp i hi).2.1⟩
    | 3, _ => exact ⟨_, rfl, rfl⟩
    | 4, _ => exact ⟨_, rfl, rfl⟩
    | 5, _ => exact ⟨_, rfl, rfl⟩)
  exact ⟨A, fun i => (p i).2, rfl, rfl, ⟨⟨hF, hcF, fun i hi => by rw [hop i hi]; exact (hp i hi).2.2.1, fun i hi => by show (if i < n then (p i).1 else _).n = 0; rw [if_neg (by show ¬ i < n; exact Nat.not_lt.2 hi)], ⟨wf_i64 ha, wf_i64 hb⟩, fun i hi => by rw [hop i hi]; exact (hp i hi).2.2.2.2.1, froz_max Try.underlying22 h hF, hcm⟩,
    fun i hi => by rw [hop i hi]; exact (hp i hi).2.2.2.1, fun i hi => by rw [hop i hi]; exact (hp i hi).2.2.2.2.2.1⟩⟩
end Go.Proofs.Ytdjckiilfplnfaa
