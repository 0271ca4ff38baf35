/- AnaHolds holds: for any arguments the law's function returns true, panics never and leaves its arguments as they were. No condition. -/
import Derived.Test.YtlpbmlfejiaamaaRows
import Derived.Test.YtlpbmlfejiaamaaOwnX10
import Derived.Test.YtlpbmlfejiaamaaEngX5
import Derived.WalkKit
import Derived.ProofKit
import Derived.OpenShut
import Derived.ChangeOld
import Derived.Below
import Derived.Lib.SmallJoins
import Derived.Laws.IdiomArrays
set_option linter.unusedSimpArgs false
set_option linter.unusedVariables false
namespace Go.Proofs.Ytlpbmlfejiaamaa
open Go.ChangeShapes Go.WideShapes Go.ChangeAt Go.RowKit Go.Joins
theorem own' : ownKnob Try.prog.godebug = none := by kernel_rfl
theorem laidOut' : laidOutB Try.prog = true := by kernel_rfl
theorem trod_struct6 {H : Type} {enc : TypeId × Value → H} {P : Program} {w : World} {base : Nat} {spare : Nat → Bool} {held : Bool} {t : TypeId} {f0 f1 f2 f3 f4 f5 : Field} {fuel : Nat} {cs : List Value} {x : DataW H × List MemPlace} (ht : P.underlying t = some (.struct #[f0, f1, f2, f3, f4, f5])) (h : DataW.trod enc P w base spare held fuel t cs = some x) :
    ∃ y0 y1 y2 y3 y4 y5 n, cs.length = P.cellsOf t ∧ DataW.trod enc P w base spare held n f0.type ((cs.drop f0.offset).take (P.cellsOf f0.type)) = some y0 ∧ DataW.trod enc P w base spare held n f1.type ((cs.drop f1.offset).take (P.cellsOf f1.type)) = some y1 ∧ DataW.trod enc P w base spare held n f2.type ((cs.drop f2.offset).take (P.cellsOf f2.type)) = some y2 ∧ DataW.trod enc P w base spare held n f3.type ((cs.drop f3.offset).take (P.cellsOf f3.type)) = some y3 ∧ DataW.trod enc P w base spare held n f4.type ((cs.drop f4.offset).take (P.cellsOf f4.type)) = some y4 ∧ DataW.trod enc P w base spare held n f5.type ((cs.drop f5.offset).take (P.cellsOf f5.type)) = some y5 := by
  obtain ⟨xs, n, _, rfl, hl, hlen, hf⟩ := DataW.trod_struct ht h
  match xs, hlen with
  | [y0, y1, y2, y3, y4, y5], _ => exact ⟨y0, y1, y2, y3, y4, y5, n, hl, by simpa using hf 0 f0 rfl, by simpa using hf 1 f1 rfl, by simpa using hf 2 f2 rfl, by simpa using hf 3 f3 rfl, by simpa using hf 4 f4 rfl, by simpa using hf 5 f5 rfl⟩
theorem cells44' : Try.prog.cellsOf 44 = 6 := by kernel_rfl
theorem cells3' : Try.prog.cellsOf 3 = 1 := by kernel_rfl
theorem cells29' : Try.prog.cellsOf 29 = 1 := by kernel_rfl
theorem wf_u32 {n : Int} (h : (Lit.int .u32 n).wf = true) : 0 ≤ n ∧ n ≤ 4294967295 := by
  simp [Lit.wf, IntKind.min, IntKind.max, IntKind.signed, IntKind.bits] at h
  omega
/-- The calls of a slice that came in. -/
theorem acts_of {H : Type} {enc : TypeId × Value → H} {w : World} {n : Nat} {C : Nat → List Value} (h : ∀ i, i < n → ∃ m y, DataW.trod (H := H) enc Try.prog w 0 (fun _ => true) true m 44 (C i) = some y) :
    ∃ l : Nat → Int × Int × Int × Int × Int × Int, (∀ i, i < n → 0 ≤ (l i).2.2.2.2.2 ∧ (l i).2.2.2.2.2 ≤ 4294967295) ∧ ∀ i k, i < n → k < 6 → ∃ u, (C i)[k]? = some u ∧ ∀ β, Sx.Rel β (Sx.arow (fun i => (l i).1) (fun i => (l i).2.1) (fun i => (l i).2.2.1) (fun i => (l i).2.2.2.1) (fun i => (l i).2.2.2.2.1) (fun i => (l i).2.2.2.2.2) i k) u := by
  have one : ∀ i, i < n → ∃ x : Int × Int × Int × Int × Int × Int, (0 ≤ x.2.2.2.2.2 ∧ x.2.2.2.2.2 ≤ 4294967295) ∧ C i = [.int .i64 x.1, .int .i64 x.2.1, .int .i64 x.2.2.1, .int .i64 x.2.2.2.1, .int .i64 x.2.2.2.2.1, .int .u32 x.2.2.2.2.2] := by
    intro i hi
    obtain ⟨m, y, hy⟩ := h i hi
    obtain ⟨y0, y1, y2, y3, y4, y5, m', hl, g0, g1, g2, g3, g4, g5⟩ := trod_struct6 Try.underlying44 hy
    rw [cells44'] at hl
    obtain ⟨c0, c1, c2, c3, c4, c5, e⟩ : ∃ c0 c1 c2 c3 c4 c5, C i = [c0, c1, c2, c3, c4, c5] := by
      match C i, hl with
      | [c0, c1, c2, c3, c4, c5], _ => exact ⟨c0, c1, c2, c3, c4, c5, rfl⟩
    rw [e] at g0 g1 g2 g3 g4 g5
    obtain ⟨a0, e0, _, _⟩ := DataW.trod_int Try.underlying3 g0
    obtain ⟨a1, e1, _, _⟩ := DataW.trod_int Try.underlying3 g1
    obtain ⟨a2, e2, _, _⟩ := DataW.trod_int Try.underlying3 g2
    obtain ⟨a3, e3, _, _⟩ := DataW.trod_int Try.underlying3 g3
    obtain ⟨a4, e4, _, _⟩ := DataW.trod_int Try.underlying3 g4
    obtain ⟨a5, e5, _, w5⟩ := DataW.trod_int Try.underlying29 g5
    simp [cells3', cells29'] at e0 e1 e2 e3 e4 e5
    exact ⟨(a0, a1, a2, a3, a4, a5), wf_u32 w5, by rw [e, e0, e1, e2, e3, e4, e5]⟩
  obtain ⟨l, hl⟩ := Deep.choose_lt one
  refine ⟨l, fun i hi => (hl i hi).1, fun i k hi hk => ?_⟩
  rw [(hl i hi).2]
  match k, hk with
  | 0, _ => exact ⟨_, rfl, fun _ => rfl⟩
  | 1, _ => exact ⟨_, rfl, fun _ => rfl⟩
  | 2, _ => exact ⟨_, rfl, fun _ => rfl⟩
  | 3, _ => exact ⟨_, rfl, fun _ => rfl⟩
  | 4, _ => exact ⟨_, rfl, fun _ => rfl⟩
  | 5, _ => exact ⟨_, rfl, fun _ => rfl⟩
/-- A slice of calls, opened. -/
theorem acts_arg {H : Type} {enc : TypeId × Value → H} {w : World} {v : Value} {x : DataW H × List MemPlace} {fuel : Nat} (h : DataW.trod enc Try.prog w 0 (fun _ => true) true fuel 34 [v] = some x) :
    ∃ (off n : Nat) (a0 a1 a2 a3 a4 a5 : Nat → Int) (β : Sx.Env), (∀ i, i < n → 0 ≤ a5 i ∧ a5 i ≤ 4294967295) ∧ Sx.Rel β (.sq 0 off 0 6 n .no) v ∧ Sx.Sat β [] [(0, .row off n n 6 (Sx.arow a0 a1 a2 a3 a4 a5) Sx.anyTy)] (Sx.Base.all w) 1 w := by
  obtain ⟨off, n, C, hC, hk⟩ := Sx.slice_arg (sz := 6) Try.underlying34 cells44' (by decide) h
  obtain ⟨l, hl, hc⟩ := acts_of hC
  obtain ⟨β, hr, hs⟩ := hk (Sx.arow (fun i => (l i).1) (fun i => (l i).2.1) (fun i => (l i).2.2.1) (fun i => (l i).2.2.2.1) (fun i => (l i).2.2.2.2.1) (fun i => (l i).2.2.2.2.2)) hc
  exact ⟨off, n, _, _, _, _, _, _, β, hl, hr, hs⟩
theorem walkH {H : Type} {enc : TypeId × Value → H} {w : World} {a c : Int} {v : Value} {x : DataW H × List MemPlace} {fuel : Nat} (h : DataW.trod enc Try.prog w 0 (fun _ => true) true fuel 34 [v] = some x) (hc : (Lit.int .u32 c).wf = true) :
    Calls Try.prog 8 #[.int .i64 a, v, .int .u32 c] w fun e w' => e = .returned (.bool true) ∧ Below w.heap.size w w' := by
  obtain ⟨off, n, a0, a1, a2, a3, a4, a5, β, hl, hr, hs⟩ := acts_arg h
  exact (Sx.holds_hcx (Sx.K0 w) a off n a0 a1 a2 a3 a4 a5 hl c (wf_u32 hc) (Sx.Base.all w) β w [.int .i64 a, v, .int .u32 c] (Sx.Base.all_ok w) (fun _ _ h => h) ⟨_, _, rfl, rfl, _, _, rfl, hr, _, _, rfl, rfl, rfl⟩ hs).mono fun e w' he => Sx.hendX_below he
set_option maxRecDepth 100000 in
theorem liftedH (os : Os) (started : os.Started) (H : Type) (enc : TypeId × Value → H) :
    ReturnsInHanded {} Try.checked os 8 .any (Rows.anaHoldsSpec.pre6 enc Try.prog Try.f8 Rows.anaHoldsRow.domain false) (Rows.anaHoldsSpec.post enc Try.prog Try.f8 false true false false) := by
  refine returnsInHanded_of_change (C := Try.checked) own' started (by kernel_rfl) Try.func8
    (ChangeSpec.witness6 (enc := enc) (C := Try.checked) false ⟨#[], #[.int .i64 0, .slice none 0 0, .int .u32 0], []⟩ 8 (by kernel_rfl) (by kernel_rfl) (by kernel_rfl) (by kernel_rfl)) ?_
  intro W base args ds gs before hval0 hW hcnd _
  have hval : ∀ (j : Nat) t v, Try.f8.params[j]? = some t → args[j]? = some v → Value.okWide Try.prog W .any base t v := hval0
  have hW' := hW
  obtain ⟨p, q, hA0, hV, rfl, hfz, hnd⟩ := hW
  have hA : DataW.TrodAll enc Try.prog W 0 (fun _ => true) true Try.f8.params.toList args.toList ds p := hA0
  rw [Try.params8] at hA hval
  obtain ⟨v0, vs0, d0, ds0, p0, q0, hargs, rfl, rfl, h0, r0⟩ := trodAll_cons hA
  obtain ⟨v1, vs1, d1, ds1, p1, q1, rfl, rfl, rfl, h1, r1⟩ := trodAll_cons r0
  obtain ⟨v2, vs2, d2, ds2, p2, q2, rfl, rfl, rfl, h2, r2⟩ := trodAll_cons r1
  obtain ⟨rfl, rfl, rfl⟩ := trodAll_nil r2
  obtain rfl : args = #[v0, v1, v2] := by cases args; simp_all
  obtain ⟨rfl, rfl⟩ := trodVars_none hV
  have k0 := h0
  have k1 := h1
  have k2 := h2
  have lt0 : ∀ x ∈ p0, x.block < W.heap.size := by obtain ⟨m, hm⟩ := k0; exact DataW.trod_lt m _ _ _ hm
  have lt1 : ∀ x ∈ p1, x.block < W.heap.size := by obtain ⟨m, hm⟩ := k1; exact DataW.trod_lt m _ _ _ hm
  have lt2 : ∀ x ∈ p2, x.block < W.heap.size := by obtain ⟨m, hm⟩ := k2; exact DataW.trod_lt m _ _ _ hm
  obtain ⟨x0, rfl, _, _, w0⟩ := open_int Try.underlying3 (hval 0 3 v0 rfl rfl) h0
  obtain ⟨a1, len1, cap1, rfl⟩ := okWide_slice Try.underlying34 (hval 1 34 v1 rfl rfl)
  obtain ⟨fuel1, g1⟩ := h1
  obtain ⟨x2, rfl, _, _, w2⟩ := open_int Try.underlying29 (hval 2 29 v2 rfl rfl) h2
  clear hA0 hval0
  refine (walkH (a := x0) (c := x2) g1 w2).mono fun e W' ⟨he, bel⟩ => ?_
  subst he
  exact ⟨_, rfl, _, _, _, [], _, [], hW', trodAll_mk1 (shut_bool Try.underlying4 _), (trodAll_cons_mk (Below.trod laidOut' (by kernel_rfl) (of_decide_eq_true (by kernel_rfl)) k0 bel lt0) (trodAll_cons_mk (Below.trod laidOut' (by kernel_rfl) (of_decide_eq_true (by kernel_rfl)) k1 bel lt1) (trodAll_cons_mk (Below.trod laidOut' (by kernel_rfl) (of_decide_eq_true (by kernel_rfl)) k2 bel lt2) trodAll_mk0))), rfl, bel.frame _, fun h => by cases h⟩
theorem overH : Rows.anaHoldsRow.holds Try.pinned (OpenSpec.ofChange Rows.anaHoldsSpec) :=
  OpenClaim.holds_of_wide 8 Try.f8 rfl rfl rfl rfl rfl rfl rfl ⟨rfl, rfl, rfl, rfl, rfl⟩ rfl rfl rfl rfl rfl (by kernel_rfl) Try.func8 (by kernel_rfl)
    (of_decide_eq_true (by kernel_rfl)) (by unfold Func.isWrapper; first | (rw [if_pos (by decide +kernel)]; kernel_rfl) | (rw [if_neg (by decide +kernel)]; exact ⟨rfl, rfl⟩))
    (fun os started H enc _ => liftedH os started H enc)
theorem anaHolds_holds : Rows.AnaHoldsSaid := overH
#print axioms anaHolds_holds
end Go.Proofs.Ytlpbmlfejiaamaa
