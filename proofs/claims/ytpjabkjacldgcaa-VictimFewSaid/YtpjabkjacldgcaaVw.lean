/- VictimFew holds: for any arguments the law's function returns true, panics never and leaves its arguments as they were. No condition. -/
import Derived.Test.YtpjabkjacldgcaaVt
import Derived.Test.YtpjabkjacldgcaaVu
namespace Go.Proofs.Ytpjabkjacldgcaa
open Go.ChangeShapes Go.WideShapes Go.ChangeAt Go.RowKit Go.Joins
theorem cells3' : Try.prog.cellsOf 3 = 1 := by kernel_rfl
/-- The numbers of a slice that came in. -/
theorem nums_of {H : Type} {enc : TypeId × Value → H} {w : World} {n : Nat} {C : Nat → List Value} (h : ∀ i, i < n → ∃ m y, DataW.trod (H := H) enc Try.prog w 0 (fun _ => true) true m 3 (C i) = some y) :
    ∃ g : Nat → Int, ∀ i k, i < n → k < 1 → ∃ u, (C i)[k]? = some u ∧ ∀ β, Sx.Rel β (Sx.nr g i k) u := by
  have one : ∀ i, i < n → ∃ x : Int, C i = [.int .i64 x] := by
    intro i hi
    obtain ⟨m, y, hy⟩ := h i hi
    obtain ⟨a, e, _, _⟩ := DataW.trod_int Try.underlying3 hy
    exact ⟨a, e⟩
  obtain ⟨g, hg⟩ := Deep.choose_lt one
  refine ⟨g, fun i k hi hk => ?_⟩
  rw [hg i hi]
  obtain rfl : k = 0 := by omega
  exact ⟨_, rfl, fun _ => rfl⟩
theorem walk5 {H : Type} {enc : TypeId × Value → H} {w : World} {v : Value} {x : DataW H × List MemPlace} {fuel : Nat} (h : DataW.trod enc Try.prog w 0 (fun _ => true) true fuel 27 [v] = some x) (P A : Int) :
    Calls Try.prog 5 #[v, .int .i64 P, .int .i64 A] w fun e w' => e = .returned (.bool true) ∧ Below w.heap.size w w' := by
  obtain ⟨off, n, C, hC, hk⟩ := Sx.slice_arg (sz := 1) Try.underlying27 cells3' (by decide) h
  obtain ⟨g, hg⟩ := nums_of hC
  obtain ⟨β, hr, hs⟩ := hk (Sx.nr g) hg
  exact (Sx.few_hc off n g P A (Sx.Base.all w) β w [v, .int .i64 P, .int .i64 A] (Sx.Base.all_ok w) ⟨_, _, rfl, hr, _, _, rfl, rfl, _, _, rfl, rfl, rfl⟩ hs).mono fun e w' he => below_of he
set_option maxRecDepth 100000 in
theorem liftedF (os : Os) (started : os.Started) (H : Type) (enc : TypeId × Value → H) :
    ReturnsInHanded {} Try.checked os 5 .any (Rows.victimFewSpec.pre6 enc Try.prog Try.f5 Rows.victimFewRow.domain false) (Rows.victimFewSpec.post enc Try.prog Try.f5 false true false false) := by
  refine returnsInHanded_of_change (C := Try.checked) own' started (by kernel_rfl) Try.func5
    (ChangeSpec.witness6 (enc := enc) (C := Try.checked) false ⟨#[], #[.slice none 0 0, .int .i64 0, .int .i64 0], []⟩ 8 (by kernel_rfl) (by kernel_rfl) (by kernel_rfl) (by kernel_rfl)) ?_
  intro W base args ds gs before hval0 hW hcnd _
  have hval : ∀ (j : Nat) t v, Try.f5.params[j]? = some t → args[j]? = some v → Value.okWide Try.prog W .any base t v := hval0
  have hW' := hW
  obtain ⟨p, q, hA0, hV, rfl, hfz, hnd⟩ := hW
  have hA : DataW.TrodAll enc Try.prog W 0 (fun _ => true) true Try.f5.params.toList args.toList ds p := hA0
  rw [Try.params5] at hA hval
  obtain ⟨v0, vs0, d0, ds0, p0, q0, hargs, rfl, rfl, h0, r0⟩ := trodAll_cons hA
  obtain ⟨v1, vs1, d1, ds1, p1, q1, rfl, rfl, rfl, h1, r1⟩ := trodAll_cons r0
  obtain ⟨v2, vs2, d2, ds2, p2, q2, rfl, rfl, rfl, h2, r2⟩ := trodAll_cons r1
  obtain ⟨rfl, rfl, rfl⟩ := trodAll_nil r2
  obtain rfl : args = #[v0, v1, v2] := by cases args; simp_all
  obtain ⟨rfl, rfl⟩ := trodVars_none hV
  have k0 := h0
  have k1 := h1
  have k2 := h2
  have lt0 : ∀ x ∈ p0, x.block < W.heap.size := by obtain ⟨m, hm⟩ := k0; exact DataW.trod_lt m _ _ _ hm
  have lt1 : ∀ x ∈ p1, x.block < W.heap.size := by obtain ⟨m, hm⟩ := k1; exact DataW.trod_lt m _ _ _ hm
  have lt2 : ∀ x ∈ p2, x.block < W.heap.size := by obtain ⟨m, hm⟩ := k2; exact DataW.trod_lt m _ _ _ hm
  obtain ⟨a0, len0, cap0, rfl⟩ := okWide_slice Try.underlying27 (hval 0 27 v0 rfl rfl)
  obtain ⟨fuel, h3⟩ := h0
  obtain ⟨P, rfl, _⟩ := open_int Try.underlying3 (hval 1 3 v1 rfl rfl) h1
  obtain ⟨A, rfl, _⟩ := open_int Try.underlying3 (hval 2 3 v2 rfl rfl) h2
  clear hA0 hval0
  refine (walk5 h3 P A).mono fun e W' ⟨he, bel⟩ => ?_
  subst he
  exact ⟨_, rfl, _, _, _, [], _, [], hW', trodAll_mk1 (shut_bool Try.underlying4 _), (trodAll_cons_mk (Below.trod laidOut' (by kernel_rfl) (of_decide_eq_true (by kernel_rfl)) k0 bel lt0) (trodAll_cons_mk (Below.trod laidOut' (by kernel_rfl) (of_decide_eq_true (by kernel_rfl)) k1 bel lt1) (trodAll_cons_mk (Below.trod laidOut' (by kernel_rfl) (of_decide_eq_true (by kernel_rfl)) k2 bel lt2) trodAll_mk0))), rfl, bel.frame _, fun h => by cases h⟩
theorem overF : Rows.victimFewRow.holds Try.pinned (OpenSpec.ofChange Rows.victimFewSpec) :=
  OpenClaim.holds_of_wide 5 Try.f5 rfl rfl rfl rfl rfl rfl rfl ⟨rfl, rfl, rfl, rfl, rfl⟩ rfl rfl rfl rfl rfl (by kernel_rfl) Try.func5 (by kernel_rfl)
    (of_decide_eq_true (by kernel_rfl)) (by unfold Func.isWrapper; first | (rw [if_pos (by decide +kernel)]; kernel_rfl) | (rw [if_neg (by decide +kernel)]; exact ⟨rfl, rfl⟩))
    (fun os started H enc _ => liftedF os started H enc)
theorem victimFew_holds : Rows.VictimFewSaid := overF
#print axioms victimFew_holds
end Go.Proofs.Ytpjabkjacldgcaa
