/- VictimChooses holds: for any candidates the law's function returns true, panics never and leaves its arguments as they were. No condition. -/
import Derived.Test.YtpjabkjacldgcaaRows
import Derived.Test.YtpjabkjacldgcaaVs
import Derived.Test.YtpjabkjacldgcaaEngC
import Derived.WalkKit
import Derived.ProofKit
import Derived.OpenShut
import Derived.ChangeOld
import Derived.Below
import Derived.Lib.SmallJoins
namespace Go.Proofs.Ytpjabkjacldgcaa
open Go.ChangeShapes Go.WideShapes Go.ChangeAt Go.RowKit Go.Joins
theorem own' : ownKnob Try.prog.godebug = none := by kernel_rfl
theorem laidOut' : laidOutB Try.prog = true := by kernel_rfl
theorem cells36' : Try.prog.cellsOf 36 = 4 := by kernel_rfl
/-- The candidates of a slice that came in. -/
theorem cands_of {H : Type} {enc : TypeId × Value → H} {w : World} {n : Nat} {C : Nat → List Value} (h : ∀ i, i < n → ∃ m y, DataW.trod (H := H) enc Try.prog w 0 (fun _ => true) true m 36 (C i) = some y) :
    ∃ c : Nat → Sx.Cd, ∀ i k, i < n → k < 4 → ∃ u, (C i)[k]? = some u ∧ ∀ β, Sx.Rel β (Sx.ck c i k) u := by
  have one : ∀ i, i < n → ∃ x : Sx.Cd, C i = [.int .i64 x.b, .int .i64 x.v, .int .i64 x.p, .int .i64 x.a] := by
    intro i hi
    obtain ⟨m, y, hy⟩ := h i hi
    obtain ⟨y0, y1, y2, y3, m', _, hl, g0, g1, g2, g3⟩ := trod_struct4 Try.underlying36 hy
    rw [cells36'] at hl
    obtain ⟨c0, c1, c2, c3, e⟩ : ∃ c0 c1 c2 c3, C i = [c0, c1, c2, c3] := by
      match C i, hl with
      | [c0, c1, c2, c3], _ => exact ⟨c0, c1, c2, c3, rfl⟩
    rw [e] at g0 g1 g2 g3
    obtain ⟨a0, e0, _, _⟩ := DataW.trod_int Try.underlying3 g0
    obtain ⟨a1, e1, _, _⟩ := DataW.trod_int Try.underlying3 g1
    obtain ⟨a2, e2, _, _⟩ := DataW.trod_int Try.underlying3 g2
    obtain ⟨a3, e3, _, _⟩ := DataW.trod_int Try.underlying3 g3
    have hc : Try.prog.cellsOf 3 = 1 := by kernel_rfl
    simp [hc] at e0 e1 e2 e3
    exact ⟨⟨a0, a1, a2, a3⟩, by rw [e, e0, e1, e2, e3]⟩
  haveI : Inhabited Sx.Cd := ⟨⟨0, 0, 0, 0⟩⟩
  obtain ⟨c, hc⟩ := Deep.choose_lt one
  refine ⟨c, fun i k hi hk => ?_⟩
  rw [hc i hi]
  match k, hk with
  | 0, _ => exact ⟨_, rfl, fun _ => rfl⟩
  | 1, _ => exact ⟨_, rfl, fun _ => rfl⟩
  | 2, _ => exact ⟨_, rfl, fun _ => rfl⟩
  | 3, _ => exact ⟨_, rfl, fun _ => rfl⟩
theorem below_of {w : World} {β : Sx.Env} {ro : Sx.Hp} {e : Ending} {w' : World} (h : Sx.HEnd β (Sx.Base.all w) ro (fun _ : Unit => True) Sx.ttOut e w') : e = .returned (.bool true) ∧ Below w.heap.size w w' := by
  obtain ⟨z, β', u, _, _, rfl, hu, hs⟩ := h
  have hu : u = .bool true := hu
  subst hu
  exact ⟨rfl, hs.below_all⟩
theorem walk3 {H : Type} {enc : TypeId × Value → H} {w : World} {v : Value} {x : DataW H × List MemPlace} {fuel : Nat} (h : DataW.trod enc Try.prog w 0 (fun _ => true) true fuel 22 [v] = some x) :
    Calls Try.prog 3 #[v] w fun e w' => e = .returned (.bool true) ∧ Below w.heap.size w w' := by
  obtain ⟨off, n, C, hC, hk⟩ := Sx.slice_arg (sz := 4) Try.underlying22 cells36' (by decide) h
  obtain ⟨c, hc⟩ := cands_of hC
  obtain ⟨β, hr, hs⟩ := hk (Sx.ck c) hc
  exact (Sx.chooses_hc off n c (Sx.Base.all w) β w [v] (Sx.Base.all_ok w) ⟨_, _, rfl, hr, rfl⟩ hs).mono fun e w' he => below_of he
set_option maxRecDepth 100000 in
theorem liftedC (os : Os) (started : os.Started) (H : Type) (enc : TypeId × Value → H) :
    ReturnsInHanded {} Try.checked os 3 .any (Rows.victimChoosesSpec.pre6 enc Try.prog Try.f3 Rows.victimChoosesRow.domain false) (Rows.victimChoosesSpec.post enc Try.prog Try.f3 false true false false) := by
  refine returnsInHanded_of_change (C := Try.checked) own' started (by kernel_rfl) Try.func3
    (ChangeSpec.witness6 (enc := enc) (C := Try.checked) false ⟨#[], #[.slice none 0 0], []⟩ 8 (by kernel_rfl) (by kernel_rfl) (by kernel_rfl) (by kernel_rfl)) ?_
  intro W base args ds gs before hval0 hW hcnd _
  have hval : ∀ (j : Nat) t v, Try.f3.params[j]? = some t → args[j]? = some v → Value.okWide Try.prog W .any base t v := hval0
  have hW' := hW
  obtain ⟨p, q, hA0, hV, rfl, hfz, hnd⟩ := hW
  have hA : DataW.TrodAll enc Try.prog W 0 (fun _ => true) true Try.f3.params.toList args.toList ds p := hA0
  rw [Try.params3] at hA hval
  obtain ⟨v0, vs0, d0, ds0, p0, q0, hargs, rfl, rfl, h0, r0⟩ := trodAll_cons hA
  obtain ⟨rfl, rfl, rfl⟩ := trodAll_nil r0
  obtain rfl : args = #[v0] := by cases args; simp_all
  obtain ⟨rfl, rfl⟩ := trodVars_none hV
  have k0 := h0
  have lt0 : ∀ x ∈ p0, x.block < W.heap.size := by obtain ⟨m, hm⟩ := k0; exact DataW.trod_lt m _ _ _ hm
  obtain ⟨a0, len0, cap0, rfl⟩ := okWide_slice Try.underlying22 (hval 0 22 v0 rfl rfl)
  obtain ⟨fuel, h1⟩ := h0
  clear hA0 hval0
  refine (walk3 h1).mono fun e W' ⟨he, bel⟩ => ?_
  subst he
  exact ⟨_, rfl, _, _, _, [], _, [], hW', trodAll_mk1 (shut_bool Try.underlying4 _), (trodAll_cons_mk (Below.trod laidOut' (by kernel_rfl) (of_decide_eq_true (by kernel_rfl)) k0 bel lt0) trodAll_mk0), rfl, bel.frame _, fun h => by cases h⟩
theorem overC : Rows.victimChoosesRow.holds Try.pinned (OpenSpec.ofChange Rows.victimChoosesSpec) :=
  OpenClaim.holds_of_wide 3 Try.f3 rfl rfl rfl rfl rfl rfl rfl ⟨rfl, rfl, rfl, rfl, rfl⟩ rfl rfl rfl rfl rfl (by kernel_rfl) Try.func3 (by kernel_rfl)
    (of_decide_eq_true (by kernel_rfl)) (by unfold Func.isWrapper; first | (rw [if_pos (by decide +kernel)]; kernel_rfl) | (rw [if_neg (by decide +kernel)]; exact ⟨rfl, rfl⟩))
    (fun os started H enc _ => liftedC os started H enc)
theorem victimChooses_holds : Rows.VictimChoosesSaid := overC
#print axioms victimChooses_holds
end Go.Proofs.Ytpjabkjacldgcaa
