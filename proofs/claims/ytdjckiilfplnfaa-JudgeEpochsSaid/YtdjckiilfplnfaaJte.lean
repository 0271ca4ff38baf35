/- JudgeEpochs holds: for any arguments the law's function returns true, panics never and leaves its arguments as they were. No condition. -/
import Derived.Test.YtdjckiilfplnfaaRows
import Derived.Test.YtdjckiilfplnfaaJta
import Derived.Test.YtdjckiilfplnfaaJzc
import Derived.Test.YtdjckiilfplnfaaEngX4
import Derived.WalkKit
import Derived.ProofKit
import Derived.OpenShut
import Derived.ChangeOld
import Derived.Below
import Derived.Lib.SmallJoins
import Derived.Laws.IdiomArrays
set_option linter.unusedSimpArgs false
set_option linter.unusedVariables false
namespace Go.Proofs.Ytdjckiilfplnfaa
open Go.ChangeShapes Go.WideShapes Go.ChangeAt Go.RowKit Go.Joins
theorem walkE {H : Type} {enc : TypeId × Value → H} {w : World} {a b : Int} {v v' : Value} {x x' : DataW H × List MemPlace} {fuel fuel' : Nat} (ha : (Lit.int .i64 a).wf = true) (hb : (Lit.int .i64 b).wf = true) {x1 : Int} (w1 : (Lit.int .i64 x1).wf = true) (h : DataW.trod enc Try.prog w 0 (fun _ => true) true fuel 22 [v] = some x) (h' : DataW.trod enc Try.prog w 0 (fun _ => true) true fuel' 23 [v'] = some x') :
    Calls Try.prog 5 #[.agg #[.int .i64 a, .int .i64 b, v, v'], .int .i64 x1] w fun e w' => e = .returned (.bool true) ∧ Below w.heap.size w w' := by
  obtain ⟨A, V, rfl, rfl, hA⟩ := hist_arg ha hb h h'
  obtain ⟨u2, hu2, q2⟩ := Sx.slice_one Try.underlying22 h
  obtain rfl : v = u2 := by simpa using hu2
  obtain ⟨u3, hu3, q3⟩ := Sx.slice_one Try.underlying23 h'
  obtain rfl : v' = u3 := by simpa using hu3
  exact (Sx.judgeEpochs_hcx (K := Sx.K0 w) hA x1 (wf_i64 w1) (Sx.Base.all w) Sx.Env.nil w [.agg #[.int .i64 A.unit, .int .i64 A.blocks, v, v'], .int .i64 x1] (Sx.Base.all_ok w) (fun _ _ h => h) ⟨_, _, rfl, ⟨_, rfl, _, _, rfl, rfl, _, _, rfl, rfl, _, _, rfl, ⟨rfl, q2⟩, _, _, rfl, ⟨rfl, q3⟩, rfl⟩, ⟨_, _, rfl, rfl, rfl⟩⟩ (Sx.sat_all w)).mono fun e w' he => Sx.hendX_below he
set_option maxRecDepth 100000 in
theorem liftedE (os : Os) (started : os.Started) (H : Type) (enc : TypeId × Value → H) :
    ReturnsInHanded {} Try.checked os 5 .any (Rows.judgeEpochsSpec.pre6 enc Try.prog Try.f5 Rows.judgeEpochsRow.domain false) (Rows.judgeEpochsSpec.post enc Try.prog Try.f5 false true false false) := by
  refine returnsInHanded_of_change (C := Try.checked) own' started (by kernel_rfl) Try.func5
    (ChangeSpec.witness6 (enc := enc) (C := Try.checked) false ⟨#[], #[.agg #[.int .i64 0, .int .i64 0, .slice none 0 0, .slice none 0 0], .int .i64 0], []⟩ 8 (by kernel_rfl) (by kernel_rfl) (by kernel_rfl) (by kernel_rfl)) ?_
  intro W base args ds gs before hval0 hW hcnd _
  have hval : ∀ (j : Nat) t v, Try.f5.params[j]? = some t → args[j]? = some v → Value.okWide Try.prog W .any base t v := hval0
  have hW' := hW
  obtain ⟨p, q, hA0, hV, rfl, hfz, hnd⟩ := hW
  have hA : DataW.TrodAll enc Try.prog W 0 (fun _ => true) true Try.f5.params.toList args.toList ds p := hA0
  rw [Try.params5] at hA hval
  obtain ⟨v0, vs0, d0, ds0, p0, q0, hargs, rfl, rfl, h0, r0⟩ := trodAll_cons hA
  obtain ⟨v1, vs1, d1, ds1, p1, q1, rfl, rfl, rfl, h1, r1⟩ := trodAll_cons r0
  obtain ⟨rfl, rfl, rfl⟩ := trodAll_nil r1
  obtain rfl : args = #[v0, v1] := by cases args; simp_all
  obtain ⟨rfl, rfl⟩ := trodVars_none hV
  have k0 := h0
  have k1 := h1
  have lt0 : ∀ x ∈ p0, x.block < W.heap.size := by obtain ⟨m, hm⟩ := k0; exact DataW.trod_lt m _ _ _ hm
  have lt1 : ∀ x ∈ p1, x.block < W.heap.size := by obtain ⟨m, hm⟩ := k1; exact DataW.trod_lt m _ _ _ hm
  obtain ⟨c0_0, c0_1, c0_2, c0_3, y0_0, y0_1, y0_2, y0_3, m0, rfl, _, _, g0_0, g0_1, g0_2, g0_3⟩ := open_agg4 Try.underlying25 (by kernel_rfl) (by kernel_rfl) (hval 0 25 v0 rfl rfl) h0
  obtain ⟨x0_0, e0_0, _, w0_0⟩ := DataW.trod_int Try.underlying3 g0_0
  obtain ⟨x0_1, e0_1, _, w0_1⟩ := DataW.trod_int Try.underlying3 g0_1
  simp at e0_0 e0_1
  subst e0_0 e0_1
  obtain ⟨x1, rfl, _, _, w1⟩ := open_int Try.underlying3 (hval 1 3 v1 rfl rfl) h1
  clear hA0 hval0
  refine (walkE w0_0 w0_1 w1 g0_2 g0_3).mono fun e W' ⟨he, bel⟩ => ?_
  subst he
  exact ⟨_, rfl, _, _, _, [], _, [], hW', trodAll_mk1 (shut_bool Try.underlying4 _), (trodAll_cons_mk (Below.trod laidOut' (by kernel_rfl) (of_decide_eq_true (by kernel_rfl)) k0 bel lt0) (trodAll_cons_mk (Below.trod laidOut' (by kernel_rfl) (of_decide_eq_true (by kernel_rfl)) k1 bel lt1) trodAll_mk0)), rfl, bel.frame _, fun h => by cases h⟩
theorem overE : Rows.judgeEpochsRow.holds Try.pinned (OpenSpec.ofChange Rows.judgeEpochsSpec) :=
  OpenClaim.holds_of_wide 5 Try.f5 rfl rfl rfl rfl rfl rfl rfl ⟨rfl, rfl, rfl, rfl, rfl⟩ rfl rfl rfl rfl rfl (by kernel_rfl) Try.func5 (by kernel_rfl)
    (of_decide_eq_true (by kernel_rfl)) (by unfold Func.isWrapper; first | (rw [if_pos (by decide +kernel)]; kernel_rfl) | (rw [if_neg (by decide +kernel)]; exact ⟨rfl, rfl⟩))
    (fun os started H enc _ => liftedE os started H enc)
theorem judgeEpochs_holds : Rows.JudgeEpochsSaid := overE
#print axioms judgeEpochs_holds
end Go.Proofs.Ytdjckiilfplnfaa
