/- ArbiterCopies holds: for any arguments the law's function returns true, panics never and leaves its arguments as they were. No condition. -/
import Derived.Test.YtkoeikjcnancdaaAx
import Derived.Test.YtkoeikjcnancdaaAaq
import Derived.Test.YtkoeikjcnancdaaAad
import Derived.Test.YtkoeikjcnancdaaAan
set_option linter.unusedSimpArgs false
set_option linter.unusedVariables false
namespace Go.Proofs.Ytkoeikjcnancdaa
open Go.ChangeShapes Go.WideShapes Go.ChangeAt Go.RowKit Go.Joins
theorem walkC {H : Type} {enc : TypeId × Value → H} {w : World} {v0 v1 v2 : Value} {x0 x1 x2 : DataW H × List MemPlace} {m0 m1 m2 : Nat} (h0 : DataW.trod enc Try.prog w 0 (fun _ => true) true m0 43 [v0] = some x0) (h1 : DataW.trod enc Try.prog w 0 (fun _ => true) true m1 43 [v1] = some x1) (h2 : DataW.trod enc Try.prog w 0 (fun _ => true) true m2 43 [v2] = some x2) (w0 : Bool) (b hi me lo : Int) :
    Calls Try.prog 8 #[.agg #[.bool w0, .int .i64 b, .int .i64 hi, .int .i64 me, .int .i64 lo], v0, v1, v2] w fun e w' => e = .returned (.bool true) ∧ Below w.heap.size w w' := by
  obtain ⟨o0, n0, L0, O0, β0, r0, s0, a0⟩ := acts_arg h0
  obtain ⟨o1, n1, L1, O1, β1, r1, s1, a1⟩ := acts_arg h1
  obtain ⟨o2, n2, L2, O2, β2, r2, s2, a2⟩ := acts_arg h2
  obtain ⟨β, e0, e1, e2, hn⟩ : ∃ β : Sx.Env, β 0 = β0 0 ∧ β 1 = β1 0 ∧ β 2 = β2 0 ∧ ∀ i, 3 ≤ i → β i = none :=
    ⟨⟨fun i => match i with | 0 => β0 0 | 1 => β1 0 | 2 => β2 0 | _ => none, fun _ => 0⟩, rfl, rfl, rfl, fun i hi => match i, hi with | i + 3, _ => rfl⟩
  have hs : Sx.Sat β [] [] (Sx.Base.all w) 3 w := ⟨⟨fun _ _ h => (Sx.none_ne h).elim, fun _ _ _ _ h => (Sx.none_ne h).elim, fun _ _ h => (Sx.none_ne h).elim, fun _ _ h => h, rfl, rfl, rfl, Nat.le_refl _, Sx.Env.nil_le _⟩, hn⟩
  exact (Sx.copies_c w0 b hi me lo o0 n0 L0 O0 o1 n1 L1 O1 o2 n2 L2 O2 (vs := [.agg #[.bool w0, .int .i64 b, .int .i64 hi, .int .i64 me, .int .i64 lo], v0, v1, v2]) (Sx.Base.all_ok w) ⟨_, _, rfl, ⟨_, rfl, _, _, rfl, rfl, _, _, rfl, rfl, _, _, rfl, rfl, _, _, rfl, rfl, _, _, rfl, rfl, rfl⟩, _, _, rfl, Sx.sq_move r0 fun _ b h => e0.trans h, _, _, rfl, Sx.sq_move r1 fun _ b h => e1.trans h, _, _, rfl, Sx.sq_move r2 fun _ b h => e2.trans h, rfl⟩ hs
    (fun B q1 q2 => a0 B 0 q1 (by rw [q2]; exact e0)) (fun B q1 q2 => a1 B 1 q1 (by rw [q2]; exact e1)) (fun B q1 q2 => a2 B 2 q1 (by rw [q2]; exact e2))).mono fun e w' he => below_of he
set_option maxRecDepth 100000 in
theorem liftedC (os : Os) (started : os.Started) (H : Type) (enc : TypeId × Value → H) :
    ReturnsInHanded {} Try.checked os 8 .any (Rows.arbiterCopiesSpec.pre6 enc Try.prog Try.f8 Rows.arbiterCopiesRow.domain false) (Rows.arbiterCopiesSpec.post enc Try.prog Try.f8 false true false false) := by
  refine returnsInHanded_of_change (C := Try.checked) own' started (by kernel_rfl) Try.func8
    (ChangeSpec.witness6 (enc := enc) (C := Try.checked) false ⟨#[], #[.agg #[.bool false, .int .i64 0, .int .i64 0, .int .i64 0, .int .i64 0], .slice none 0 0, .slice none 0 0, .slice none 0 0], []⟩ 8 (by kernel_rfl) (by kernel_rfl) (by kernel_rfl) (by kernel_rfl)) ?_
  intro W base args ds gs before hval0 hW hcnd _
  have hval : ∀ (j : Nat) t v, Try.f8.params[j]? = some t → args[j]? = some v → Value.okWide Try.prog W .any base t v := hval0
  have hW' := hW
  obtain ⟨p, q, hA0, hV, rfl, hfz, hnd⟩ := hW
  have hA : DataW.TrodAll enc Try.prog W 0 (fun _ => true) true Try.f8.params.toList args.toList ds p := hA0
  rw [Try.params8] at hA hval
  obtain ⟨v0, vs0, d0, ds0, p0, q0, hargs, rfl, rfl, h0, r0⟩ := trodAll_cons hA
  obtain ⟨v1, vs1, d1, ds1, p1, q1, rfl, rfl, rfl, h1, r1⟩ := trodAll_cons r0
  obtain ⟨v2, vs2, d2, ds2, p2, q2, rfl, rfl, rfl, h2, r2⟩ := trodAll_cons r1
  obtain ⟨v3, vs3, d3, ds3, p3, q3, rfl, rfl, rfl, h3, r3⟩ := trodAll_cons r2
  obtain ⟨rfl, rfl, rfl⟩ := trodAll_nil r3
  obtain rfl : args = #[v0, v1, v2, v3] := by cases args; simp_all
  obtain ⟨rfl, rfl⟩ := trodVars_none hV
  have k0 := h0
  have k1 := h1
  have k2 := h2
  have k3 := h3
  have lt0 : ∀ x ∈ p0, x.block < W.heap.size := by obtain ⟨m, hm⟩ := k0; exact DataW.trod_lt m _ _ _ hm
  have lt1 : ∀ x ∈ p1, x.block < W.heap.size := by obtain ⟨m, hm⟩ := k1; exact DataW.trod_lt m _ _ _ hm
  have lt2 : ∀ x ∈ p2, x.block < W.heap.size := by obtain ⟨m, hm⟩ := k2; exact DataW.trod_lt m _ _ _ hm
  have lt3 : ∀ x ∈ p3, x.block < W.heap.size := by obtain ⟨m, hm⟩ := k3; exact DataW.trod_lt m _ _ _ hm
  obtain ⟨c0_0, c0_1, c0_2, c0_3, c0_4, y0_0, y0_1, y0_2, y0_3, y0_4, m0, rfl, _, _, g0_0, g0_1, g0_2, g0_3, g0_4⟩ := open_agg5 Try.underlying23 (by kernel_rfl) (by kernel_rfl) (hval 0 23 v0 rfl rfl) h0
  obtain ⟨x0_0, e0_0, _⟩ := DataW.trod_bool Try.underlying4 g0_0
  obtain ⟨x0_1, e0_1, _, w0_1⟩ := DataW.trod_int Try.underlying3 g0_1
  obtain ⟨x0_2, e0_2, _, w0_2⟩ := DataW.trod_int Try.underlying3 g0_2
  obtain ⟨x0_3, e0_3, _, w0_3⟩ := DataW.trod_int Try.underlying3 g0_3
  obtain ⟨x0_4, e0_4, _, w0_4⟩ := DataW.trod_int Try.underlying3 g0_4
  simp at e0_0 e0_1 e0_2 e0_3 e0_4
  subst e0_0 e0_1 e0_2 e0_3 e0_4
  obtain ⟨a1, len1, cap1, rfl⟩ := okWide_slice Try.underlying43 (hval 1 43 v1 rfl rfl)
  obtain ⟨fuel1, g1⟩ := h1
  obtain ⟨a2, len2, cap2, rfl⟩ := okWide_slice Try.underlying43 (hval 2 43 v2 rfl rfl)
  obtain ⟨fuel2, g2⟩ := h2
  obtain ⟨a3, len3, cap3, rfl⟩ := okWide_slice Try.underlying43 (hval 3 43 v3 rfl rfl)
  obtain ⟨fuel3, g3⟩ := h3
  clear hA0 hval0
  refine (walkC g1 g2 g3 x0_0 x0_1 x0_2 x0_3 x0_4).mono fun e W' ⟨he, bel⟩ => ?_
  subst he
  exact ⟨_, rfl, _, _, _, [], _, [], hW', trodAll_mk1 (shut_bool Try.underlying4 _), (trodAll_cons_mk (Below.trod laidOut' (by kernel_rfl) (of_decide_eq_true (by kernel_rfl)) k0 bel lt0) (trodAll_cons_mk (Below.trod laidOut' (by kernel_rfl) (of_decide_eq_true (by kernel_rfl)) k1 bel lt1) (trodAll_cons_mk (Below.trod laidOut' (by kernel_rfl) (of_decide_eq_true (by kernel_rfl)) k2 bel lt2) (trodAll_cons_mk (Below.trod laidOut' (by kernel_rfl) (of_decide_eq_true (by kernel_rfl)) k3 bel lt3) trodAll_mk0)))), rfl, bel.frame _, fun h => by cases h⟩
theorem overC : Rows.arbiterCopiesRow.holds Try.pinned (OpenSpec.ofChange Rows.arbiterCopiesSpec) :=
  OpenClaim.holds_of_wide 8 Try.f8 rfl rfl rfl rfl rfl rfl rfl ⟨rfl, rfl, rfl, rfl, rfl⟩ rfl rfl rfl rfl rfl (by kernel_rfl) Try.func8 (by kernel_rfl)
    (of_decide_eq_true (by kernel_rfl)) (by unfold Func.isWrapper; first | (rw [if_pos (by decide +kernel)]; kernel_rfl) | (rw [if_neg (by decide +kernel)]; exact ⟨rfl, rfl⟩))
    (fun os started H enc _ => liftedC os started H enc)
theorem arbiterCopies_holds : Rows.ArbiterCopiesSaid := overC
#print axioms arbiterCopies_holds
end Go.Proofs.Ytkoeikjcnancdaa
