/- ReserveNotices holds: for any arguments the law's function returns true, panics never and leaves its arguments as they were. No condition. -/
import Derived.Test.YtmnlmghchegjaaaRows
import Derived.Test.YtmnlmghchegjaaaRxq
import Derived.Test.YtmnlmghchegjaaaEngX5
import Derived.WalkKit
import Derived.ProofKit
import Derived.OpenShut
import Derived.ChangeOld
import Derived.Below
import Derived.Lib.SmallJoins
import Derived.Laws.IdiomArrays
set_option linter.unusedSimpArgs false
set_option linter.unusedVariables false
namespace Go.Proofs.Ytmnlmghchegjaaa
open Go.ChangeShapes Go.WideShapes Go.ChangeAt Go.RowKit Go.Joins
theorem own' : ownKnob Try.prog.godebug = none := by kernel_rfl
theorem laidOut' : laidOutB Try.prog = true := by kernel_rfl
theorem below_of {w w' : World} {e : Ending} {β : Sx.Env} {ψ : Unit → Prop} (h : Sx.HEnd β (Sx.Base.all w) [] ψ (fun _ => ⟨.tt, [], 0⟩) e w') : e = .returned (.bool true) ∧ Below w.heap.size w w' := by
  obtain ⟨_, _, u, _, _, h3, h4, h5⟩ := h
  have h4 : u = .bool true := h4
  exact ⟨by rw [h3, h4], h5.below_all⟩
theorem trod_struct8 {H : Type} {enc : TypeId × Value → H} {P : Program} {w : World} {base : Nat} {spare : Nat → Bool} {held : Bool} {t : TypeId} {f0 f1 f2 f3 f4 f5 f6 f7 : Field} {fuel : Nat} {cs : List Value} {x : DataW H × List MemPlace} (ht : P.underlying t = some (.struct #[f0, f1, f2, f3, f4, f5, f6, f7])) (h : DataW.trod enc P w base spare held fuel t cs = some x) :
    ∃ y0 y1 y2 y3 y4 y5 y6 y7 n, cs.length = P.cellsOf t ∧ DataW.trod enc P w base spare held n f0.type ((cs.drop f0.offset).take (P.cellsOf f0.type)) = some y0 ∧ DataW.trod enc P w base spare held n f1.type ((cs.drop f1.offset).take (P.cellsOf f1.type)) = some y1 ∧ DataW.trod enc P w base spare held n f2.type ((cs.drop f2.offset).take (P.cellsOf f2.type)) = some y2 ∧ DataW.trod enc P w base spare held n f3.type ((cs.drop f3.offset).take (P.cellsOf f3.type)) = some y3 ∧ DataW.trod enc P w base spare held n f4.type ((cs.drop f4.offset).take (P.cellsOf f4.type)) = some y4 ∧ DataW.trod enc P w base spare held n f5.type ((cs.drop f5.offset).take (P.cellsOf f5.type)) = some y5 ∧ DataW.trod enc P w base spare held n f6.type ((cs.drop f6.offset).take (P.cellsOf f6.type)) = some y6 ∧ DataW.trod enc P w base spare held n f7.type ((cs.drop f7.offset).take (P.cellsOf f7.type)) = some y7 := by
  obtain ⟨xs, n, _, rfl, hl, hlen, hf⟩ := DataW.trod_struct ht h
  match xs, hlen with
  | [y0, y1, y2, y3, y4, y5, y6, y7], _ => exact ⟨y0, y1, y2, y3, y4, y5, y6, y7, n, hl, by simpa using hf 0 f0 rfl, by simpa using hf 1 f1 rfl, by simpa using hf 2 f2 rfl, by simpa using hf 3 f3 rfl, by simpa using hf 4 f4 rfl, by simpa using hf 5 f5 rfl, by simpa using hf 6 f6 rfl, by simpa using hf 7 f7 rfl⟩
theorem cells35' : Try.prog.cellsOf 35 = 8 := by kernel_rfl
theorem cells23' : Try.prog.cellsOf 23 = 1 := by kernel_rfl
theorem cells3' : Try.prog.cellsOf 3 = 1 := by kernel_rfl
theorem cells4' : Try.prog.cellsOf 4 = 1 := by kernel_rfl
theorem wf_u64 {n : Int} (h : (Lit.int .u64 n).wf = true) : 0 ≤ n ∧ n < 18446744073709551616 := by
  simp [Lit.wf, IntKind.min, IntKind.max, IntKind.signed, IntKind.bits] at h
  omega
/-- The calls of a slice that came in. -/
theorem acts_of {H : Type} {enc : TypeId × Value → H} {w : World} {n : Nat} {C : Nat → List Value} (h : ∀ i, i < n → ∃ m y, DataW.trod (H := H) enc Try.prog w 0 (fun _ => true) true m 35 (C i) = some y) :
    ∃ l : Nat → Sx.A8, (∀ i, i < n → (l i).ok) ∧ ∀ i k, i < n → k < 8 → ∃ u, (C i)[k]? = some u ∧ ∀ β, Sx.Rel β (Sx.ak8 l i k) u := by
  have one : ∀ i, i < n → ∃ x : Sx.A8, x.ok ∧ C i = [.int .i64 x.w, .int .i64 x.a, .int .i64 x.t, .int .u64 x.ho, .int .u64 x.ke, .int .u64 x.cu, .bool x.fl, .bool x.kn] := by
    intro i hi
    obtain ⟨m, y, hy⟩ := h i hi
    obtain ⟨y0, y1, y2, y3, y4, y5, y6, y7, m', hl, g0, g1, g2, g3, g4, g5, g6, g7⟩ := trod_struct8 Try.underlying35 hy
    rw [cells35'] at hl
    obtain ⟨c0, c1, c2, c3, c4, c5, c6, c7, e⟩ : ∃ c0 c1 c2 c3 c4 c5 c6 c7, C i = [c0, c1, c2, c3, c4, c5, c6, c7] := by
      match C i, hl with
      | [c0, c1, c2, c3, c4, c5, c6, c7], _ => exact ⟨c0, c1, c2, c3, c4, c5, c6, c7, rfl⟩
    rw [e] at g0 g1 g2 g3 g4 g5 g6 g7
    obtain ⟨a0, e0, _, _⟩ := DataW.trod_int Try.underlying3 g0
    obtain ⟨a1, e1, _, _⟩ := DataW.trod_int Try.underlying3 g1
    obtain ⟨a2, e2, _, _⟩ := DataW.trod_int Try.underlying3 g2
    obtain ⟨a3, e3, _, w3⟩ := DataW.trod_int Try.underlying23 g3
    obtain ⟨a4, e4, _, w4⟩ := DataW.trod_int Try.underlying23 g4
    obtain ⟨a5, e5, _, _⟩ := DataW.trod_int Try.underlying23 g5
    obtain ⟨a6, e6, _⟩ := DataW.trod_bool Try.underlying4 g6
    obtain ⟨a7, e7, _⟩ := DataW.trod_bool Try.underlying4 g7
    simp [cells3', cells23', cells4'] at e0 e1 e2 e3 e4 e5 e6 e7
    exact ⟨⟨a0, a1, a2, a3, a4, a5, a6, a7⟩, ⟨(wf_u64 w3).1, (wf_u64 w3).2, (wf_u64 w4).1, (wf_u64 w4).2⟩, by rw [e, e0, e1, e2, e3, e4, e5, e6, e7]⟩
  have : Inhabited Sx.A8 := ⟨⟨0, 0, 0, 0, 0, 0, false, false⟩⟩
  obtain ⟨l, hl⟩ := Deep.choose_lt one
  refine ⟨l, fun i hi => (hl i hi).1, fun i k hi hk => ?_⟩
  rw [(hl i hi).2]
  match k, hk with
  | 0, _ => exact ⟨_, rfl, fun _ => rfl⟩
  | 1, _ => exact ⟨_, rfl, fun _ => rfl⟩
  | 2, _ => exact ⟨_, rfl, fun _ => rfl⟩
  | 3, _ => exact ⟨_, rfl, fun _ => rfl⟩
  | 4, _ => exact ⟨_, rfl, fun _ => rfl⟩
  | 5, _ => exact ⟨_, rfl, fun _ => rfl⟩
  | 6, _ => exact ⟨_, rfl, fun _ => rfl⟩
  | 7, _ => exact ⟨_, rfl, fun _ => rfl⟩
/-- A slice of calls, opened. -/
theorem acts_arg {H : Type} {enc : TypeId × Value → H} {w : World} {v : Value} {x : DataW H × List MemPlace} {fuel : Nat} (h : DataW.trod enc Try.prog w 0 (fun _ => true) true fuel 22 [v] = some x) :
    ∃ (off n : Nat) (l : Nat → Sx.A8) (β : Sx.Env), (∀ i, i < n → (l i).ok) ∧ Sx.Rel β (.sq 0 off 0 8 n .no) v ∧ Sx.Sat β [] [(0, .row off n n 8 (Sx.ak8 l) Sx.anyTy)] (Sx.Base.all w) 1 w := by
  obtain ⟨off, n, C, hC, hk⟩ := Sx.slice_arg (sz := 8) Try.underlying22 cells35' (by decide) h
  obtain ⟨l, hl, hc⟩ := acts_of hC
  obtain ⟨β, hr, hs⟩ := hk (Sx.ak8 l) hc
  exact ⟨off, n, l, β, hl, hr, hs⟩
theorem walkM {H : Type} {enc : TypeId × Value → H} {w : World} {v : Value} {x : DataW H × List MemPlace} {fuel : Nat} (host : Int) (h : DataW.trod enc Try.prog w 0 (fun _ => true) true fuel 22 [v] = some x) :
    Calls Try.prog 3 #[v, .int .u64 host] w fun e w' => e = .returned (.bool true) ∧ Below w.heap.size w w' := by
  obtain ⟨off, n, l, β, hl, hr, hs⟩ := acts_arg h
  exact (Sx.notices_hcx (Sx.K0 w) host off n l hl (Sx.Base.all w) β w [v, .int .u64 host] (Sx.Base.all_ok w) (fun _ _ h => h) ⟨_, _, rfl, hr, _, _, rfl, rfl, rfl⟩ hs).mono fun e w' he => Sx.hendX_below he
set_option maxRecDepth 100000 in
theorem liftedM (os : Os) (started : os.Started) (H : Type) (enc : TypeId × Value → H) :
    ReturnsInHanded {} Try.checked os 3 .any (Rows.reserveNoticesSpec.pre6 enc Try.prog Try.f3 Rows.reserveNoticesRow.domain false) (Rows.reserveNoticesSpec.post enc Try.prog Try.f3 false true false false) := by
  refine returnsInHanded_of_change (C := Try.checked) own' started (by kernel_rfl) Try.func3
    (ChangeSpec.witness6 (enc := enc) (C := Try.checked) false ⟨#[], #[.slice none 0 0, .int .u64 0], []⟩ 8 (by kernel_rfl) (by kernel_rfl) (by kernel_rfl) (by kernel_rfl)) ?_
  intro W base args ds gs before hval0 hW hcnd _
  have hval : ∀ (j : Nat) t v, Try.f3.params[j]? = some t → args[j]? = some v → Value.okWide Try.prog W .any base t v := hval0
  have hW' := hW
  obtain ⟨p, q, hA0, hV, rfl, hfz, hnd⟩ := hW
  have hA : DataW.TrodAll enc Try.prog W 0 (fun _ => true) true Try.f3.params.toList args.toList ds p := hA0
  rw [Try.params3] at hA hval
  obtain ⟨v0, vs0, d0, ds0, p0, q0, hargs, rfl, rfl, h0, r0⟩ := trodAll_cons hA
  obtain ⟨v1, vs1, d1, ds1, p1, q1, rfl, rfl, rfl, h1, r1⟩ := trodAll_cons r0
  obtain ⟨rfl, rfl, rfl⟩ := trodAll_nil r1
  obtain rfl : args = #[v0, v1] := by cases args; simp_all
  obtain ⟨rfl, rfl⟩ := trodVars_none hV
  have k0 := h0
  have k1 := h1
  have lt0 : ∀ x ∈ p0, x.block < W.heap.size := by obtain ⟨m, hm⟩ := k0; exact DataW.trod_lt m _ _ _ hm
  have lt1 : ∀ x ∈ p1, x.block < W.heap.size := by obtain ⟨m, hm⟩ := k1; exact DataW.trod_lt m _ _ _ hm
  obtain ⟨a0, len0, cap0, rfl⟩ := okWide_slice Try.underlying22 (hval 0 22 v0 rfl rfl)
  obtain ⟨fuel0, g0⟩ := h0
  obtain ⟨x1, rfl, _, _, w1⟩ := open_int Try.underlying23 (hval 1 23 v1 rfl rfl) h1
  clear hA0 hval0
  refine (walkM x1 g0).mono fun e W' ⟨he, bel⟩ => ?_
  subst he
  exact ⟨_, rfl, _, _, _, [], _, [], hW', trodAll_mk1 (shut_bool Try.underlying4 _), (trodAll_cons_mk (Below.trod laidOut' (by kernel_rfl) (of_decide_eq_true (by kernel_rfl)) k0 bel lt0) (trodAll_cons_mk (Below.trod laidOut' (by kernel_rfl) (of_decide_eq_true (by kernel_rfl)) k1 bel lt1) trodAll_mk0)), rfl, bel.frame _, fun h => by cases h⟩
theorem overM : Rows.reserveNoticesRow.holds Try.pinned (OpenSpec.ofChange Rows.reserveNoticesSpec) :=
  OpenClaim.holds_of_wide 3 Try.f3 rfl rfl rfl rfl rfl rfl rfl ⟨rfl, rfl, rfl, rfl, rfl⟩ rfl rfl rfl rfl rfl (by kernel_rfl) Try.func3 (by kernel_rfl)
    (of_decide_eq_true (by kernel_rfl)) (by unfold Func.isWrapper; first | (rw [if_pos (by decide +kernel)]; kernel_rfl) | (rw [if_neg (by decide +kernel)]; exact ⟨rfl, rfl⟩))
    (fun os started H enc _ => liftedM os started H enc)
theorem reserveNotices_holds : Rows.ReserveNoticesSaid := overM
#print axioms reserveNotices_holds
end Go.Proofs.Ytmnlmghchegjaaa
