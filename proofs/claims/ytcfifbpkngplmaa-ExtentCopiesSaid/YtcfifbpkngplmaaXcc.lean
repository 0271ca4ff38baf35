/- ExtentCopies holds: for any arguments the law's function returns true, panics never and leaves its arguments as they were. No condition. -/
import Derived.Test.YtcfifbpkngplmaaRows
import Derived.Test.YtcfifbpkngplmaaXcb
import Derived.Test.YtcfifbpkngplmaaEngX5
import Derived.WalkKit
import Derived.ProofKit
import Derived.OpenShut
import Derived.ChangeOld
import Derived.Below
import Derived.Lib.SmallJoins
import Derived.Laws.IdiomArrays
set_option linter.unusedSimpArgs false
set_option linter.unusedVariables false
namespace Go.Proofs.Ytcfifbpkngplmaa
open Go.ChangeShapes Go.WideShapes Go.ChangeAt Go.RowKit Go.Joins
theorem own' : ownKnob Try.prog.godebug = none := by kernel_rfl
theorem laidOut' : laidOutB Try.prog = true := by kernel_rfl
theorem trod_struct4 {H : Type} {enc : TypeId × Value → H} {P : Program} {w : World} {base : Nat} {spare : Nat → Bool} {held : Bool} {t : TypeId} {f0 f1 f2 f3 : Field} {fuel : Nat} {cs : List Value} {x : DataW H × List MemPlace} (ht : P.underlying t = some (.struct #[f0, f1, f2, f3])) (h : DataW.trod enc P w base spare held fuel t cs = some x) :
    ∃ y0 y1 y2 y3 n, cs.length = P.cellsOf t ∧ DataW.trod enc P w base spare held n f0.type ((cs.drop f0.offset).take (P.cellsOf f0.type)) = some y0 ∧ DataW.trod enc P w base spare held n f1.type ((cs.drop f1.offset).take (P.cellsOf f1.type)) = some y1 ∧ DataW.trod enc P w base spare held n f2.type ((cs.drop f2.offset).take (P.cellsOf f2.type)) = some y2 ∧ DataW.trod enc P w base spare held n f3.type ((cs.drop f3.offset).take (P.cellsOf f3.type)) = some y3 := by
  obtain ⟨xs, n, _, rfl, hl, hlen, hf⟩ := DataW.trod_struct ht h
  match xs, hlen with
  | [y0, y1, y2, y3], _ => exact ⟨y0, y1, y2, y3, n, hl, by simpa using hf 0 f0 rfl, by simpa using hf 1 f1 rfl, by simpa using hf 2 f2 rfl, by simpa using hf 3 f3 rfl⟩
theorem cells34' : Try.prog.cellsOf 34 = 4 := by kernel_rfl
theorem cells3' : Try.prog.cellsOf 3 = 1 := by kernel_rfl
theorem wf_i64 {n : Int} (h : (Lit.int .i64 n).wf = true) : n ≤ 9223372036854775807 := by
  simp [Lit.wf, IntKind.min, IntKind.max, IntKind.signed, IntKind.bits] at h
  omega
/-- The calls of a slice that came in. -/
theorem acts_of {H : Type} {enc : TypeId × Value → H} {w : World} {n : Nat} {C : Nat → List Value} (h : ∀ i, i < n → ∃ m y, DataW.trod (H := H) enc Try.prog w 0 (fun _ => true) true m 34 (C i) = some y) :
    ∃ l : Nat → Int × Int × Int × Int, (∀ i, i < n → (l i).2.2.2 ≤ 9223372036854775807) ∧ ∀ i k, i < n → k < 4 → ∃ u, (C i)[k]? = some u ∧ ∀ β, Sx.Rel β (Sx.arow (fun i => (l i).1) (fun i => (l i).2.1) (fun i => (l i).2.2.1) (fun i => (l i).2.2.2) i k) u := by
  have one : ∀ i, i < n → ∃ x : Int × Int × Int × Int, x.2.2.2 ≤ 9223372036854775807 ∧ C i = [.int .i64 x.1, .int .i64 x.2.1, .int .i64 x.2.2.1, .int .i64 x.2.2.2] := by
    intro i hi
    obtain ⟨m, y, hy⟩ := h i hi
    obtain ⟨y0, y1, y2, y3, m', hl, g0, g1, g2, g3⟩ := trod_struct4 Try.underlying34 hy
    rw [cells34'] at hl
    obtain ⟨c0, c1, c2, c3, e⟩ : ∃ c0 c1 c2 c3, C i = [c0, c1, c2, c3] := by
      match C i, hl with
      | [c0, c1, c2, c3], _ => exact ⟨c0, c1, c2, c3, rfl⟩
    rw [e] at g0 g1 g2 g3
    obtain ⟨a0, e0, _, _⟩ := DataW.trod_int Try.underlying3 g0
    obtain ⟨a1, e1, _, _⟩ := DataW.trod_int Try.underlying3 g1
    obtain ⟨a2, e2, _, _⟩ := DataW.trod_int Try.underlying3 g2
    obtain ⟨a3, e3, _, w3⟩ := DataW.trod_int Try.underlying3 g3
    simp [cells3'] at e0 e1 e2 e3
    exact ⟨(a0, a1, a2, a3), wf_i64 w3, by rw [e, e0, e1, e2, e3]⟩
  obtain ⟨l, hl⟩ := Deep.choose_lt one
  refine ⟨l, fun i hi => (hl i hi).1, fun i k hi hk => ?_⟩
  rw [(hl i hi).2]
  match k, hk with
  | 0, _ => exact ⟨_, rfl, fun _ => rfl⟩
  | 1, _ => exact ⟨_, rfl, fun _ => rfl⟩
  | 2, _ => exact ⟨_, rfl, fun _ => rfl⟩
  | 3, _ => exact ⟨_, rfl, fun _ => rfl⟩
/-- A slice of calls, opened. -/
theorem acts_arg {H : Type} {enc : TypeId × Value → H} {w : World} {v : Value} {x : DataW H × List MemPlace} {fuel : Nat} (h : DataW.trod enc Try.prog w 0 (fun _ => true) true fuel 32 [v] = some x) :
    ∃ (off n : Nat) (a0 a1 a2 a3 : Nat → Int) (β : Sx.Env), (∀ i, i < n → a3 i ≤ 9223372036854775807) ∧ Sx.Rel β (.sq 0 off 0 4 n .no) v ∧ Sx.Sat β [] [(0, .row off n n 4 (Sx.arow a0 a1 a2 a3) Sx.anyTy)] (Sx.Base.all w) 1 w := by
  obtain ⟨off, n, C, hC, hk⟩ := Sx.slice_arg (sz := 4) Try.underlying32 cells34' (by decide) h
  obtain ⟨l, hl, hc⟩ := acts_of hC
  obtain ⟨β, hr, hs⟩ := hk (Sx.arow (fun i => (l i).1) (fun i => (l i).2.1) (fun i => (l i).2.2.1) (fun i => (l i).2.2.2)) hc
  exact ⟨off, n, _, _, _, _, β, hl, hr, hs⟩
theorem okWide_array {P : Program} {w : World} {r : Reach} {base : Nat} {t e : TypeId} {n : Nat} {v : Value} (ht : P.underlying t = some (.array n e)) (h : Value.okWide P w r base t v) : ∃ cs, v = .agg cs ∧ cs.size = P.cellsOf t := by
  simp only [Value.okWide, ht] at h
  obtain ⟨cs, h1, h2, _⟩ := h
  exact ⟨cs, h1, h2⟩
theorem cells57' : Try.prog.cellsOf 57 = 8 := by kernel_rfl
/-- One call that came in. -/
theorem open_act {H : Type} {enc : TypeId × Value → H} {w : World} {fuel : Nat} {c0 c1 c2 c3 : Value} {x : DataW H × List MemPlace} (h : DataW.trod enc Try.prog w 0 (fun _ => true) true fuel 34 [c0, c1, c2, c3] = some x) :
    ∃ b0 b1 b2 b3 : Int, (c0 = .int .i64 b0 ∧ c1 = .int .i64 b1 ∧ c2 = .int .i64 b2 ∧ c3 = .int .i64 b3) ∧ b3 ≤ 9223372036854775807 := by
  obtain ⟨y0, y1, y2, y3, m', hl, g0, g1, g2, g3⟩ := trod_struct4 Try.underlying34 h
  obtain ⟨a0, e0, _, _⟩ := DataW.trod_int Try.underlying3 g0
  obtain ⟨a1, e1, _, _⟩ := DataW.trod_int Try.underlying3 g1
  obtain ⟨a2, e2, _, _⟩ := DataW.trod_int Try.underlying3 g2
  obtain ⟨a3, e3, _, w3⟩ := DataW.trod_int Try.underlying3 g3
  simp [cells3'] at e0 e1 e2 e3
  exact ⟨a0, a1, a2, a3, ⟨e0, e1, e2, e3⟩, wf_i64 w3⟩
set_option maxRecDepth 100000 in
theorem open_two {H : Type} {enc : TypeId × Value → H} {w : World} {fuel : Nat} {cs : List Value} {x : DataW H × List MemPlace} (h : DataW.trod enc Try.prog w 0 (fun _ => true) true fuel 57 cs = some x) :
    ∃ b0 b1 b2 b3 c0 c1 c2 c3 : Int, cs = [.int .i64 b0, .int .i64 b1, .int .i64 b2, .int .i64 b3, .int .i64 c0, .int .i64 c1, .int .i64 c2, .int .i64 c3] ∧ b3 ≤ 9223372036854775807 ∧ c3 ≤ 9223372036854775807 := by
  obtain ⟨xs, m, rfl, rfl, hl, hlen, hf⟩ := DataW.trod_array Try.underlying57 h
  rw [cells57'] at hl
  match cs, hl with
  | [b0, b1, b2, b3, c0, c1, c2, c3], _ =>
    match xs, hlen with
    | [y0, y1], _ =>
      have h0 := hf 0 (by decide)
      have h1 := hf 1 (by decide)
      rw [cells34'] at h0 h1
      simp at h0 h1
      obtain ⟨p0, p1, p2, p3, ⟨rfl, rfl, rfl, rfl⟩, hp⟩ := open_act h0
      obtain ⟨q0, q1, q2, q3, ⟨rfl, rfl, rfl, rfl⟩, hq⟩ := open_act h1
      exact ⟨p0, p1, p2, p3, q0, q1, q2, q3, rfl, hp, hq⟩
theorem walkC {H : Type} {enc : TypeId × Value → H} {w : World} {a b b0 b1 b2 b3 c0 c1 c2 c3 : Int} {v : Value} {x : DataW H × List MemPlace} {fuel : Nat} (h : DataW.trod enc Try.prog w 0 (fun _ => true) true fuel 32 [v] = some x) (hb3 : b3 ≤ 9223372036854775807) (hc3 : c3 ≤ 9223372036854775807) :
    Calls Try.prog 6 #[.int .i64 a, .int .i64 b, v, .agg #[.int .i64 b0, .int .i64 b1, .int .i64 b2, .int .i64 b3, .int .i64 c0, .int .i64 c1, .int .i64 c2, .int .i64 c3]] w fun e w' => e = .returned (.bool true) ∧ Below w.heap.size w w' := by
  obtain ⟨off, n, a0, a1, a2, a3, β, hl, hr, hs⟩ := acts_arg h
  exact (Sx.hcx_of_hcxq (Sx.copies_hcxq (Sx.K0 w) a b off n a0 a1 a2 a3 hl b0 b1 b2 b3 c0 c1 c2 c3 hb3 hc3) (Sx.Base.all w) β w [.int .i64 a, .int .i64 b, v, .agg #[.int .i64 b0, .int .i64 b1, .int .i64 b2, .int .i64 b3, .int .i64 c0, .int .i64 c1, .int .i64 c2, .int .i64 c3]] (Sx.Base.all_ok w) (fun _ _ h => h)
    ⟨_, _, rfl, rfl, _, _, rfl, rfl, _, _, rfl, hr, _, _, rfl, ⟨_, rfl, _, _, rfl, rfl, _, _, rfl, rfl, _, _, rfl, rfl, _, _, rfl, rfl, _, _, rfl, rfl, _, _, rfl, rfl, _, _, rfl, rfl, _, _, rfl, rfl, rfl⟩, rfl⟩ hs).mono fun e w' he => Sx.hendX_below he
set_option maxRecDepth 100000 in
theorem liftedC (os : Os) (started : os.Started) (H : Type) (enc : TypeId × Value → H) :
    ReturnsInHanded {} Try.checked os 6 .any (Rows.extentCopiesSpec.pre6 enc Try.prog Try.f6 Rows.extentCopiesRow.domain false) (Rows.extentCopiesSpec.post enc Try.prog Try.f6 false true false false) := by
  refine returnsInHanded_of_change (C := Try.checked) own' started (by kernel_rfl) Try.func6
    (ChangeSpec.witness6 (enc := enc) (C := Try.checked) false ⟨#[], #[.int .i64 0, .int .i64 0, .slice none 0 0, .agg #[.int .i64 0, .int .i64 0, .int .i64 0, .int .i64 0, .int .i64 0, .int .i64 0, .int .i64 0, .int .i64 0]], []⟩ 8 (by kernel_rfl) (by kernel_rfl) (by kernel_rfl) (by kernel_rfl)) ?_
  intro W base args ds gs before hval0 hW hcnd _
  have hval : ∀ (j : Nat) t v, Try.f6.params[j]? = some t → args[j]? = some v → Value.okWide Try.prog W .any base t v := hval0
  have hW' := hW
  obtain ⟨p, q, hA0, hV, rfl, hfz, hnd⟩ := hW
  have hA : DataW.TrodAll enc Try.prog W 0 (fun _ => true) true Try.f6.params.toList args.toList ds p := hA0
  rw [Try.params6] at hA hval
  obtain ⟨v0, vs0, d0, ds0, p0, q0, hargs, rfl, rfl, h0, r0⟩ := trodAll_cons hA
  obtain ⟨v1, vs1, d1, ds1, p1, q1, rfl, rfl, rfl, h1, r1⟩ := trodAll_cons r0
  obtain ⟨v2, vs2, d2, ds2, p2, q2, rfl, rfl, rfl, h2, r2⟩ := trodAll_cons r1
  obtain ⟨v3, vs3, d3, ds3, p3, q3, rfl, rfl, rfl, h3, r3⟩ := trodAll_cons r2
  obtain ⟨rfl, rfl, rfl⟩ := trodAll_nil r3
  obtain rfl : args = #[v0, v1, v2, v3] := by cases args; simp_all
  obtain ⟨rfl, rfl⟩ := trodVars_none hV
  have k0 := h0
  have k1 := h1
  have k2 := h2
  have k3 := h3
  have lt0 : ∀ x ∈ p0, x.block < W.heap.size := by obtain ⟨m, hm⟩ := k0; exact DataW.trod_lt m _ _ _ hm
  have lt1 : ∀ x ∈ p1, x.block < W.heap.size := by obtain ⟨m, hm⟩ := k1; exact DataW.trod_lt m _ _ _ hm
  have lt2 : ∀ x ∈ p2, x.block < W.heap.size := by obtain ⟨m, hm⟩ := k2; exact DataW.trod_lt m _ _ _ hm
  have lt3 : ∀ x ∈ p3, x.block < W.heap.size := by obtain ⟨m, hm⟩ := k3; exact DataW.trod_lt m _ _ _ hm
  obtain ⟨x0, rfl, _, _, w0⟩ := open_int Try.underlying3 (hval 0 3 v0 rfl rfl) h0
  obtain ⟨x1, rfl, _, _, w1⟩ := open_int Try.underlying3 (hval 1 3 v1 rfl rfl) h1
  obtain ⟨a2, len2, cap2, rfl⟩ := okWide_slice Try.underlying32 (hval 2 32 v2 rfl rfl)
  obtain ⟨fuel2, g2⟩ := h2
  obtain ⟨cs3, rfl, hsz3⟩ := okWide_array Try.underlying57 (hval 3 57 v3 rfl rfl)
  obtain ⟨fu3, hf3⟩ := h3
  obtain ⟨b0, b1, b2, b3, c0, c1, c2, c3, ae, hb3, hc3⟩ := open_two hf3
  have ae := congrArg List.toArray ae
  simp [Value.cells] at ae
  subst ae
  clear hA0 hval0
  refine (walkC (a := x0) (b := x1) g2 hb3 hc3).mono fun e W' ⟨he, bel⟩ => ?_
  subst he
  exact ⟨_, rfl, _, _, _, [], _, [], hW', trodAll_mk1 (shut_bool Try.underlying4 _), (trodAll_cons_mk (Below.trod laidOut' (by kernel_rfl) (of_decide_eq_true (by kernel_rfl)) k0 bel lt0) (trodAll_cons_mk (Below.trod laidOut' (by kernel_rfl) (of_decide_eq_true (by kernel_rfl)) k1 bel lt1) (trodAll_cons_mk (Below.trod laidOut' (by kernel_rfl) (of_decide_eq_true (by kernel_rfl)) k2 bel lt2) (trodAll_cons_mk (Below.trod laidOut' (by kernel_rfl) (of_decide_eq_true (by kernel_rfl)) k3 bel lt3) trodAll_mk0)))), rfl, bel.frame _, fun h => by cases h⟩
theorem overC : Rows.extentCopiesRow.holds Try.pinned (OpenSpec.ofChange Rows.extentCopiesSpec) :=
  OpenClaim.holds_of_wide 6 Try.f6 rfl rfl rfl rfl rfl rfl rfl ⟨rfl, rfl, rfl, rfl, rfl⟩ rfl rfl rfl rfl rfl (by kernel_rfl) Try.func6 (by kernel_rfl)
    (of_decide_eq_true (by kernel_rfl)) (by unfold Func.isWrapper; first | (rw [if_pos (by decide +kernel)]; kernel_rfl) | (rw [if_neg (by decide +kernel)]; exact ⟨rfl, rfl⟩))
    (fun os started H enc _ => liftedC os started H enc)
theorem extentCopies_holds : Rows.ExtentCopiesSaid := overC
#print axioms extentCopies_holds
end Go.Proofs.Ytcfifbpkngplmaa
