/- FeatureCopies holds: for any arguments the law's function returns true, panics never and leaves its arguments as they were. No condition. -/
import Derived.Test.YtaeelabbppjobaaFq
import Derived.Test.YtaeelabbppjobaaFw
set_option linter.unusedSimpArgs false
set_option linter.unusedVariables false
namespace Go.Proofs.Ytaeelabbppjobaa
open Go.ChangeShapes Go.WideShapes Go.ChangeAt Go.RowKit Go.Joins
/-- A slice under another name and environment. -/
theorem sq_move {β β' : Sx.Env} {i j off sz len : Nat} {v : Value} (h : Sx.Rel β (.sq i off 0 sz len .no) v) (e : β i = β' j) : Sx.Rel β' (.sq j off 0 sz len .no) v := by
  obtain ⟨base, room, h1, h2, h3, h4, h5⟩ := h
  exact ⟨base, room, h1, h2, h3, h4, fun h0 => ⟨(h5 h0).1, let ⟨b, hb, g, _⟩ := (h5 h0).2; ⟨b, e.symm.trans hb, g, fun h => by cases h⟩⟩⟩
theorem ak_closed (l : Nat → Sx.AC) (i k : Nat) : (Sx.ak l i k).closed = true := by
  unfold Sx.ak
  split <;> rfl
theorem row_move {β β' : Sx.Env} {off n : Nat} {l : Nat → Sx.AC} {w : World} {i : Nat} {s : Sx.SO} (hs : Sx.Sat β [] (Sx.actH off n l) (Sx.Base.all w) 1 w) (e : β 0 = β' i) (he : s = .row off n n 5 (Sx.ak l) Sx.anyTy) (hl : s.Live) :
    ∃ b o, β' i = some b ∧ (Sx.Base.all w).D b = some o ∧ Sx.ORel β' s o := by
  subst he
  obtain ⟨b, o, h1, h2, c, fz, tt, ht, g1, g2, g3, g4⟩ := hs.read 0 (.row off n n 5 (Sx.ak l) Sx.anyTy) rfl hl
  exact ⟨b, o, e.symm.trans h1, h2, c, fz, tt, ht, g1, g2, g3, fun i k hi hk => let ⟨u, hu, hr⟩ := g4 i k hi hk; ⟨u, hu, Sx.Rel.closed _ _ (ak_closed l i k) hr⟩⟩
/-- Three slices of calls. -/
theorem acts3_arg {H : Type} {enc : TypeId × Value → H} {w : World} {v0 v1 v2 : Value} {x0 x1 x2 : DataW H × List MemPlace} {m0 m1 m2 : Nat} (h0 : DataW.trod enc Try.prog w 0 (fun _ => true) true m0 24 [v0] = some x0) (h1 : DataW.trod enc Try.prog w 0 (fun _ => true) true m1 24 [v1] = some x1) (h2 : DataW.trod enc Try.prog w 0 (fun _ => true) true m2 24 [v2] = some x2) :
    ∃ (o0 n0 : Nat) (l0 : Nat → Sx.AC) (o1 n1 : Nat) (l1 : Nat → Sx.AC) (o2 n2 : Nat) (l2 : Nat → Sx.AC) (β : Sx.Env), (∀ i, i < n0 → (l0 i).ok) ∧ (∀ i, i < n1 → (l1 i).ok) ∧ (∀ i, i < n2 → (l2 i).ok) ∧
      Sx.Rel β (.sq 0 o0 0 5 n0 .no) v0 ∧ Sx.Rel β (.sq 1 o1 0 5 n1 .no) v1 ∧ Sx.Rel β (.sq 2 o2 0 5 n2 .no) v2 ∧ Sx.Sat β [] (Sx.acts3 o0 n0 l0 o1 n1 l1 o2 n2 l2) (Sx.Base.all w) 3 w := by
  obtain ⟨o0, n0, l0, β0, hl0, hr0, hs0⟩ := acts_arg h0
  obtain ⟨o1, n1, l1, β1, hl1, hr1, hs1⟩ := acts_arg h1
  obtain ⟨o2, n2, l2, β2, hl2, hr2, hs2⟩ := acts_arg h2
  refine ⟨o0, n0, l0, o1, n1, l1, o2, n2, l2, ⟨fun i => match i with | 0 => β0 0 | 1 => β1 0 | 2 => β2 0 | _ => none, fun _ => 0⟩, hl0, hl1, hl2, sq_move hr0 rfl, sq_move hr1 rfl, sq_move hr2 rfl,
    ⟨⟨fun _ _ h => (Sx.none_ne h).elim, fun _ _ _ _ h => (Sx.none_ne h).elim, ?_, fun _ _ h => h, rfl, rfl, rfl, Nat.le_refl _, Sx.Env.nil_le _⟩, ?_⟩⟩
  · intro i s hi hl
    match i, hi with
    | 0, hi => injection hi with hi; exact row_move hs0 rfl hi.symm hl
    | 1, hi => injection hi with hi; exact row_move hs1 rfl hi.symm hl
    | 2, hi => injection hi with hi; exact row_move hs2 rfl hi.symm hl
    | i + 3, hi => cases hi
  · intro i hi
    match i, hi with
    | i + 3, _ => rfl
theorem walk6 {H : Type} {enc : TypeId × Value → H} {w : World} {v0 v1 v2 : Value} {x0 x1 x2 : DataW H × List MemPlace} {m0 m1 m2 : Nat} (h0 : DataW.trod enc Try.prog w 0 (fun _ => true) true m0 24 [v0] = some x0) (h1 : DataW.trod enc Try.prog w 0 (fun _ => true) true m1 24 [v1] = some x1) (h2 : DataW.trod enc Try.prog w 0 (fun _ => true) true m2 24 [v2] = some x2) (q s : Int) :
    Calls Try.prog 6 #[.agg #[.int .i64 q, .int .i64 s], v0, v1, v2] w fun e w' => e = .returned (.bool true) ∧ Below w.heap.size w w' := by
  obtain ⟨o0, n0, l0, o1, n1, l1, o2, n2, l2, β, hl0, hl1, hl2, hr0, hr1, hr2, hs⟩ := acts3_arg h0 h1 h2
  exact (Sx.copies_hc q s o0 n0 l0 hl0 o1 n1 l1 hl1 o2 n2 l2 hl2 (Sx.Base.all w) β w [.agg #[.int .i64 q, .int .i64 s], v0, v1, v2] (Sx.Base.all_ok w) ⟨_, _, rfl, ⟨_, rfl, _, _, rfl, rfl, _, _, rfl, rfl, rfl⟩, _, _, rfl, hr0, _, _, rfl, hr1, _, _, rfl, hr2, rfl⟩ hs).mono fun e w' he => below_of he
set_option maxRecDepth 100000 in
theorem liftedC (os : Os) (started : os.Started) (H : Type) (enc : TypeId × Value → H) :
    ReturnsInHanded {} Try.checked os 6 .any (Rows.featureCopiesSpec.pre6 enc Try.prog Try.f6 Rows.featureCopiesRow.domain false) (Rows.featureCopiesSpec.post enc Try.prog Try.f6 false true false false) := by
  refine returnsInHanded_of_change (C := Try.checked) own' started (by kernel_rfl) Try.func6
    (ChangeSpec.witness6 (enc := enc) (C := Try.checked) false ⟨#[], #[.agg #[.int .i64 0, .int .i64 0], .slice none 0 0, .slice none 0 0, .slice none 0 0], []⟩ 8 (by kernel_rfl) (by kernel_rfl) (by kernel_rfl) (by kernel_rfl)) ?_
  intro W base args ds gs before hval0 hW hcnd _
  have hval : ∀ (j : Nat) t v, Try.f6.params[j]? = some t → args[j]? = some v → Value.okWide Try.prog W .any base t v := hval0
  have hW' := hW
  obtain ⟨p, q, hA0, hV, rfl, hfz, hnd⟩ := hW
  have hA : DataW.TrodAll enc Try.prog W 0 (fun _ => true) true Try.f6.params.toList args.toList ds p := hA0
  rw [Try.params6] at hA hval
  obtain ⟨v0, vs0, d0, ds0, p0, q0, hargs, rfl, rfl, h0, r0⟩ := trodAll_cons hA
  obtain ⟨v1, vs1, d1, ds1, p1, q1, rfl, rfl, rfl, h1, r1⟩ := trodAll_cons r0
  obtain ⟨v2, vs2, d2, ds2, p2, q2, rfl, rfl, rfl, h2, r2⟩ := trodAll_cons r1
  obtain ⟨v3, vs3, d3, ds3, p3, q3, rfl, rfl, rfl, h3, r3⟩ := trodAll_cons r2
  obtain ⟨rfl, rfl, rfl⟩ := trodAll_nil r3
  obtain rfl : args = #[v0, v1, v2, v3] := by cases args; simp_all
  obtain ⟨rfl, rfl⟩ := trodVars_none hV
  have k0 := h0
  have k1 := h1
  have k2 := h2
  have k3 := h3
  have lt0 : ∀ x ∈ p0, x.block < W.heap.size := by obtain ⟨m, hm⟩ := k0; exact DataW.trod_lt m _ _ _ hm
  have lt1 : ∀ x ∈ p1, x.block < W.heap.size := by obtain ⟨m, hm⟩ := k1; exact DataW.trod_lt m _ _ _ hm
  have lt2 : ∀ x ∈ p2, x.block < W.heap.size := by obtain ⟨m, hm⟩ := k2; exact DataW.trod_lt m _ _ _ hm
  have lt3 : ∀ x ∈ p3, x.block < W.heap.size := by obtain ⟨m, hm⟩ := k3; exact DataW.trod_lt m _ _ _ hm
  obtain ⟨c0_0, c0_1, y0_0, y0_1, m0, rfl, _, _, g0_0, g0_1⟩ := open_agg2 Try.underlying23 (by kernel_rfl) (by kernel_rfl) (hval 0 23 v0 rfl rfl) h0
  obtain ⟨x0_0, e0_0, _, w0_0⟩ := DataW.trod_int Try.underlying3 g0_0
  obtain ⟨x0_1, e0_1, _, w0_1⟩ := DataW.trod_int Try.underlying3 g0_1
  simp at e0_0 e0_1
  subst e0_0 e0_1
  obtain ⟨a1, len1, cap1, rfl⟩ := okWide_slice Try.underlying24 (hval 1 24 v1 rfl rfl)
  obtain ⟨fuel1, g1⟩ := h1
  obtain ⟨a2, len2, cap2, rfl⟩ := okWide_slice Try.underlying24 (hval 2 24 v2 rfl rfl)
  obtain ⟨fuel2, g2⟩ := h2
  obtain ⟨a3, len3, cap3, rfl⟩ := okWide_slice Try.underlying24 (hval 3 24 v3 rfl rfl)
  obtain ⟨fuel3, g3⟩ := h3
  clear hA0 hval0
  refine (walk6 g1 g2 g3 x0_0 x0_1).mono fun e W' ⟨he, bel⟩ => ?_
  subst he
  exact ⟨_, rfl, _, _, _, [], _, [], hW', trodAll_mk1 (shut_bool Try.underlying4 _), (trodAll_cons_mk (Below.trod laidOut' (by kernel_rfl) (of_decide_eq_true (by kernel_rfl)) k0 bel lt0) (trodAll_cons_mk (Below.trod laidOut' (by kernel_rfl) (of_decide_eq_true (by kernel_rfl)) k1 bel lt1) (trodAll_cons_mk (Below.trod laidOut' (by kernel_rfl) (of_decide_eq_true (by kernel_rfl)) k2 bel lt2) (trodAll_cons_mk (Below.trod laidOut' (by kernel_rfl) (of_decide_eq_true (by kernel_rfl)) k3 bel lt3) trodAll_mk0)))), rfl, bel.frame _, fun h => by cases h⟩
theorem overC : Rows.featureCopiesRow.holds Try.pinned (OpenSpec.ofChange Rows.featureCopiesSpec) :=
  OpenClaim.holds_of_wide 6 Try.f6 rfl rfl rfl rfl rfl rfl rfl ⟨rfl, rfl, rfl, rfl, rfl⟩ rfl rfl rfl rfl rfl (by kernel_rfl) Try.func6 (by kernel_rfl)
    (of_decide_eq_true (by kernel_rfl)) (by unfold Func.isWrapper; first | (rw [if_pos (by decide +kernel)]; kernel_rfl) | (rw [if_neg (by decide +kernel)]; exact ⟨rfl, rfl⟩))
    (fun os started H enc _ => liftedC os started H enc)
theorem featureCopies_holds : Rows.FeatureCopiesSaid := overC
#print axioms featureCopies_holds
end Go.Proofs.Ytaeelabbppjobaa
