/- ReserveCodes holds: for any arguments the law's function returns true, panics never and leaves its arguments as they were. No condition. -/
import Derived.Test.YtmnlmghchegjaaaRows
import Derived.Test.YtmnlmghchegjaaaRtg
import Derived.Test.YtmnlmghchegjaaaEngX5
import Derived.WalkKit
import Derived.ProofKit
import Derived.OpenShut
import Derived.ChangeOld
import Derived.Below
import Derived.Lib.SmallJoins
import Derived.Laws.IdiomArrays
set_option linter.unusedSimpArgs false
set_option linter.unusedVariables false
namespace Go.Proofs.Ytmnlmghchegjaaa
open Go.ChangeShapes Go.WideShapes Go.ChangeAt Go.RowKit Go.Joins
theorem own' : ownKnob Try.prog.godebug = none := by kernel_rfl
theorem laidOut' : laidOutB Try.prog = true := by kernel_rfl
theorem below_of {w w' : World} {e : Ending} {β : Sx.Env} {ψ : Unit → Prop} (h : Sx.HEnd β (Sx.Base.all w) [] ψ (fun _ => ⟨.tt, [], 0⟩) e w') : e = .returned (.bool true) ∧ Below w.heap.size w w' := by
  obtain ⟨_, _, u, _, _, h3, h4, h5⟩ := h
  have h4 : u = .bool true := h4
  exact ⟨by rw [h3, h4], h5.below_all⟩
theorem trod_struct3 {H : Type} {enc : TypeId × Value → H} {P : Program} {w : World} {base : Nat} {spare : Nat → Bool} {held : Bool} {t : TypeId} {f0 f1 f2 : Field} {fuel : Nat} {cs : List Value} {x : DataW H × List MemPlace} (ht : P.underlying t = some (.struct #[f0, f1, f2])) (h : DataW.trod enc P w base spare held fuel t cs = some x) :
    ∃ y0 y1 y2 n, cs.length = P.cellsOf t ∧ DataW.trod enc P w base spare held n f0.type ((cs.drop f0.offset).take (P.cellsOf f0.type)) = some y0 ∧ DataW.trod enc P w base spare held n f1.type ((cs.drop f1.offset).take (P.cellsOf f1.type)) = some y1 ∧ DataW.trod enc P w base spare held n f2.type ((cs.drop f2.offset).take (P.cellsOf f2.type)) = some y2 := by
  obtain ⟨xs, n, _, rfl, hl, hlen, hf⟩ := DataW.trod_struct ht h
  match xs, hlen with
  | [y0, y1, y2], _ => exact ⟨y0, y1, y2, n, hl, by simpa using hf 0 f0 rfl, by simpa using hf 1 f1 rfl, by simpa using hf 2 f2 rfl⟩
theorem trod_struct4 {H : Type} {enc : TypeId × Value → H} {P : Program} {w : World} {base : Nat} {spare : Nat → Bool} {held : Bool} {t : TypeId} {f0 f1 f2 f3 : Field} {fuel : Nat} {cs : List Value} {x : DataW H × List MemPlace} (ht : P.underlying t = some (.struct #[f0, f1, f2, f3])) (h : DataW.trod enc P w base spare held fuel t cs = some x) :
    ∃ y0 y1 y2 y3 n, cs.length = P.cellsOf t ∧ DataW.trod enc P w base spare held n f0.type ((cs.drop f0.offset).take (P.cellsOf f0.type)) = some y0 ∧ DataW.trod enc P w base spare held n f1.type ((cs.drop f1.offset).take (P.cellsOf f1.type)) = some y1 ∧ DataW.trod enc P w base spare held n f2.type ((cs.drop f2.offset).take (P.cellsOf f2.type)) = some y2 ∧ DataW.trod enc P w base spare held n f3.type ((cs.drop f3.offset).take (P.cellsOf f3.type)) = some y3 := by
  obtain ⟨xs, n, _, rfl, hl, hlen, hf⟩ := DataW.trod_struct ht h
  match xs, hlen with
  | [y0, y1, y2, y3], _ => exact ⟨y0, y1, y2, y3, n, hl, by simpa using hf 0 f0 rfl, by simpa using hf 1 f1 rfl, by simpa using hf 2 f2 rfl, by simpa using hf 3 f3 rfl⟩
theorem array4 {α : Type} {cs : Array α} (h : cs.size = 4) : ∃ c0 c1 c2 c3, cs = #[c0, c1, c2, c3] := by
  obtain ⟨l⟩ := cs
  match l, h with
  | [c0, c1, c2, c3], _ => exact ⟨c0, c1, c2, c3, rfl⟩
theorem open_agg4 {H : Type} {enc : TypeId × Value → H} {P : Program} {w : World} {base : Nat} {spare : Nat → Bool} {held : Bool} {r : Reach} {b0 : Nat} {t : TypeId} {f0 f1 f2 f3 : Field} {v : Value} {d : DataW H} {p : List MemPlace} (hs : P.underlying t = some (.struct #[f0, f1, f2, f3])) (hone : Go.Deep.oneCellFields P #[f0, f1, f2, f3] = true) (hC : P.cellsOf t = 4)
    (hv : Value.okWide P w r b0 t v) (h : DataW.Trod enc P w base spare held t v d p) :
    ∃ (v0 v1 v2 v3 : Value) (y0 y1 y2 y3 : DataW H × List MemPlace) (n : Nat), v = .agg #[v0, v1, v2, v3] ∧ True ∧ True ∧ DataW.trod enc P w base spare held n f0.type [v0] = some y0 ∧ DataW.trod enc P w base spare held n f1.type [v1] = some y1 ∧ DataW.trod enc P w base spare held n f2.type [v2] = some y2 ∧ DataW.trod enc P w base spare held n f3.type [v3] = some y3 := by
  obtain ⟨cs, rfl, hsz⟩ := okWide_struct hs hv
  obtain ⟨c0, c1, c2, c3, rfl⟩ := array4 (hsz.trans hC)
  obtain ⟨fuel, hf⟩ := h
  obtain ⟨y0, y1, y2, y3, n, _, h0, h1, h2, h3⟩ := trod_struct4 hs hf
  obtain ⟨o0, k0⟩ := Go.Deep.hone_of hone 0 f0 rfl
  obtain ⟨o1, k1⟩ := Go.Deep.hone_of hone 1 f1 rfl
  obtain ⟨o2, k2⟩ := Go.Deep.hone_of hone 2 f2 rfl
  obtain ⟨o3, k3⟩ := Go.Deep.hone_of hone 3 f3 rfl
  exact ⟨c0, c1, c2, c3, y0, y1, y2, y3, n, rfl, trivial, trivial, by simpa [Value.cells, o0, k0] using h0, by simpa [Value.cells, o1, k1] using h1, by simpa [Value.cells, o2, k2] using h2, by simpa [Value.cells, o3, k3] using h3⟩
theorem cells82' : Try.prog.cellsOf 82 = 3 := by kernel_rfl
theorem cells23' : Try.prog.cellsOf 23 = 1 := by kernel_rfl
theorem cells5' : Try.prog.cellsOf 5 = 1 := by kernel_rfl
theorem cells4' : Try.prog.cellsOf 4 = 1 := by kernel_rfl
theorem belowC {w w' : World} {e : Ending} {β : Sx.Env} {ro : Sx.Hp} {n : Nat} {ψ : Unit → Prop} (h : Sx.HEnd β (Sx.Base.all w) ro ψ (fun _ => ⟨.tt, [], n⟩) e w') : e = .returned (.bool true) ∧ Below w.heap.size w w' := by
  obtain ⟨_, _, u, _, _, h3, h4, h5⟩ := h
  have h4 : u = .bool true := h4
  exact ⟨by rw [h3, h4], h5.below_all⟩
theorem wf_u64 {n : Int} (h : (Lit.int .u64 n).wf = true) : 0 ≤ n ∧ n < 18446744073709551616 := by
  simp [Lit.wf, IntKind.min, IntKind.max, IntKind.signed, IntKind.bits] at h
  omega
theorem wf_u32 {n : Int} (h : (Lit.int .u32 n).wf = true) : 0 ≤ n ∧ n < 4294967296 := by
  simp [Lit.wf, IntKind.min, IntKind.max, IntKind.signed, IntKind.bits] at h
  omega
theorem wf_u8 {n : Int} (h : (Lit.int .u8 n).wf = true) : 0 ≤ n ∧ n < 256 := by
  simp [Lit.wf, IntKind.min, IntKind.max, IntKind.signed, IntKind.bits] at h
  omega
/-- Registrations that came in. -/
theorem regs_arg {H : Type} {enc : TypeId × Value → H} {w : World} {v : Value} {x : DataW H × List MemPlace} {fuel : Nat} (h : DataW.trod enc Try.prog w 0 (fun _ => true) true fuel 65 [v] = some x) :
    ∃ R : List Sx.Reg, Sx.Froz (Sx.K0 w) v R.length 3 (Sx.regR R) ∧ ∀ i, i < R.length → 0 ≤ (Sx.regD R i).1 ∧ (Sx.regD R i).1 < 18446744073709551616 ∧ 0 ≤ (Sx.regD R i).2.1 ∧ (Sx.regD R i).2.1 < 18446744073709551616 := by
  obtain ⟨n, C, hC, hk⟩ := Sx.froz_of (sz := 3) Try.underlying65 cells82' (by decide) h
  have one : ∀ i, i < n → ∃ x : Sx.Reg, C i = [.int .u64 x.1, .int .u64 x.2.1, .bool x.2.2] ∧ 0 ≤ x.1 ∧ x.1 < 18446744073709551616 ∧ 0 ≤ x.2.1 ∧ x.2.1 < 18446744073709551616 := by
    intro i hi
    obtain ⟨m, y, hy⟩ := hC i hi
    obtain ⟨y0, y1, y2, m', hl, g0, g1, g2⟩ := trod_struct3 Try.underlying82 hy
    rw [cells82'] at hl
    obtain ⟨c0, c1, c2, e⟩ : ∃ c0 c1 c2, C i = [c0, c1, c2] := by
      match C i, hl with
      | [c0, c1, c2], _ => exact ⟨c0, c1, c2, rfl⟩
    rw [e] at g0 g1 g2
    obtain ⟨a0, e0, _, w0⟩ := DataW.trod_int Try.underlying23 g0
    obtain ⟨a1, e1, _, w1⟩ := DataW.trod_int Try.underlying23 g1
    obtain ⟨a2, e2, _⟩ := DataW.trod_bool Try.underlying4 g2
    simp [cells23', cells4'] at e0 e1 e2
    exact ⟨(a0, a1, a2), by rw [e, e0, e1, e2], (wf_u64 w0).1, (wf_u64 w0).2, (wf_u64 w1).1, (wf_u64 w1).2⟩
  have : Inhabited Sx.Reg := ⟨(0, 0, false)⟩
  obtain ⟨l, hl⟩ := Deep.choose_lt one
  have hD : ∀ i, i < n → Sx.regD ((List.range n).map l) i = l i := fun i hi => by simp [Sx.regD, hi]
  refine ⟨(List.range n).map l, ?_, fun i hi => ?_⟩
  · have := hk (Sx.regR ((List.range n).map l)) (fun i k hi hk => by
      rw [(hl i hi).1]
      match k, hk with
      | 0, _ => exact ⟨_, rfl, by simp [Sx.regR, hD i hi, Sx.Rel]⟩
      | 1, _ => exact ⟨_, rfl, by simp [Sx.regR, hD i hi, Sx.Rel]⟩
      | 2, _ => exact ⟨_, rfl, by simp [Sx.regR, hD i hi, Sx.Rel]⟩)
    simpa using this
  · have hi : i < n := by simpa using hi
    rw [hD i hi]
    exact (hl i hi).2
/-- Bytes that came in. -/
theorem bytes_arg {H : Type} {enc : TypeId × Value → H} {w : World} {v : Value} {x : DataW H × List MemPlace} {fuel : Nat} (h : DataW.trod enc Try.prog w 0 (fun _ => true) true fuel 70 [v] = some x) :
    ∃ (m : Nat) (g : Nat → Int), Sx.Froz (Sx.K0 w) v m 1 (Sx.byt g) ∧ Sx.Bytes8 g := by
  obtain ⟨n, C, hC, hk⟩ := Sx.froz_of (sz := 1) Try.underlying70 cells5' (by decide) h
  have one : ∀ i, i < n → ∃ x : Int, C i = [.int .u8 x] ∧ 0 ≤ x ∧ x < 256 := by
    intro i hi
    obtain ⟨m, y, hy⟩ := hC i hi
    obtain ⟨x, e, _, w0⟩ := DataW.trod_int Try.underlying5 hy
    exact ⟨x, e, wf_u8 w0⟩
  obtain ⟨l, hl⟩ := Deep.choose_lt one
  refine ⟨n, fun i => if i < n then l i else 0, hk _ (fun i k hi hk => ?_), fun i => ?_⟩
  · rw [(hl i hi).1]
    match k, hk with
    | 0, _ => exact ⟨_, rfl, by simp [Sx.byt, hi, Sx.Rel]⟩
  · by_cases hi : i < n
    · simp only [hi, if_true]; exact (hl i hi).2
    · simp only [hi, if_false]; omega
theorem walkC {H : Type} {enc : TypeId × Value → H} {w : World} {G T : Int} {p : Bool} {v v' : Value} {x x' : DataW H × List MemPlace} {fuel fuel' : Nat} (hG : (Lit.int .u32 G).wf = true) (hT : (Lit.int .i64 T).wf = true)
    (h : DataW.trod enc Try.prog w 0 (fun _ => true) true fuel 65 [v] = some x) (h' : DataW.trod enc Try.prog w 0 (fun _ => true) true fuel' 70 [v'] = some x') :
    Calls Try.prog 5 #[.agg #[.int .u32 G, .int .i64 T, .bool p, v], v'] w fun e w' => e = .returned (.bool true) ∧ Below w.heap.size w w' := by
  obtain ⟨R, hF, hk⟩ := regs_arg h
  obtain ⟨m, g, hF', hg⟩ := bytes_arg h'
  obtain ⟨o1, β1, _, r1, s1⟩ := Sx.sat_open (K := Sx.K0 w) (B := Sx.Base.all w) (fun _ _ h => h) hF (by decide) (Sx.sat_all w)
  obtain ⟨o2, β2, l2, r2, s2⟩ := Sx.sat_open (K := Sx.K0 w) (B := Sx.Base.all w) (fun _ _ h => h) hF' (by decide) s1
  have hT2 : Sx.Fits .i64 T := by
    rw [Sx.Fits_i64]
    simp [Lit.wf, IntKind.min, IntKind.max, IntKind.signed, IntKind.bits] at hT
    omega
  exact (Sx.codes_hc G T p R (wf_u32 hG) hT2 hk g hg m o1 o2 (Sx.Base.all w) β2 w [.agg #[.int .u32 G, .int .i64 T, .bool p, v], v'] (Sx.Base.all_ok w)
    ⟨_, _, rfl, ⟨_, rfl, _, _, rfl, rfl, _, _, rfl, rfl, _, _, rfl, rfl, _, _, rfl, Sx.Rel.mono l2 _ _ r1, rfl⟩, _, _, rfl, r2, rfl⟩ s2).mono fun e w' he => belowC he
set_option maxRecDepth 100000 in
theorem liftedC (os : Os) (started : os.Started) (H : Type) (enc : TypeId × Value → H) :
    ReturnsInHanded {} Try.checked os 5 .any (Rows.reserveCodesSpec.pre6 enc Try.prog Try.f5 Rows.reserveCodesRow.domain false) (Rows.reserveCodesSpec.post enc Try.prog Try.f5 false true false false) := by
  refine returnsInHanded_of_change (C := Try.checked) own' started (by kernel_rfl) Try.func5
    (ChangeSpec.witness6 (enc := enc) (C := Try.checked) false ⟨#[], #[.agg #[.int .u32 0, .int .i64 0, .bool false, .slice none 0 0], .slice none 0 0], []⟩ 8 (by kernel_rfl) (by kernel_rfl) (by kernel_rfl) (by kernel_rfl)) ?_
  intro W base args ds gs before hval0 hW hcnd _
  have hval : ∀ (j : Nat) t v, Try.f5.params[j]? = some t → args[j]? = some v → Value.okWide Try.prog W .any base t v := hval0
  have hW' := hW
  obtain ⟨p, q, hA0, hV, rfl, hfz, hnd⟩ := hW
  have hA : DataW.TrodAll enc Try.prog W 0 (fun _ => true) true Try.f5.params.toList args.toList ds p := hA0
  rw [Try.params5] at hA hval
  obtain ⟨v0, vs0, d0, ds0, p0, q0, hargs, rfl, rfl, h0, r0⟩ := trodAll_cons hA
  obtain ⟨v1, vs1, d1, ds1, p1, q1, rfl, rfl, rfl, h1, r1⟩ := trodAll_cons r0
  obtain ⟨rfl, rfl, rfl⟩ := trodAll_nil r1
  obtain rfl : args = #[v0, v1] := by cases args; simp_all
  obtain ⟨rfl, rfl⟩ := trodVars_none hV
  have k0 := h0
  have k1 := h1
  have lt0 : ∀ x ∈ p0, x.block < W.heap.size := by obtain ⟨m, hm⟩ := k0; exact DataW.trod_lt m _ _ _ hm
  have lt1 : ∀ x ∈ p1, x.block < W.heap.size := by obtain ⟨m, hm⟩ := k1; exact DataW.trod_lt m _ _ _ hm
  obtain ⟨c0_0, c0_1, c0_2, c0_3, y0_0, y0_1, y0_2, y0_3, m0, rfl, _, _, g0_0, g0_1, g0_2, g0_3⟩ := open_agg4 Try.underlying67 (by kernel_rfl) (by kernel_rfl) (hval 0 67 v0 rfl rfl) h0
  obtain ⟨x0_0, e0_0, _, w0_0⟩ := DataW.trod_int Try.underlying28 g0_0
  obtain ⟨x0_1, e0_1, _, w0_1⟩ := DataW.trod_int Try.underlying3 g0_1
  obtain ⟨x0_2, e0_2, _⟩ := DataW.trod_bool Try.underlying4 g0_2
  simp at e0_0 e0_1 e0_2
  subst e0_0 e0_1 e0_2
  obtain ⟨a1, len1, cap1, rfl⟩ := okWide_slice Try.underlying70 (hval 1 70 v1 rfl rfl)
  obtain ⟨fuel1, g1⟩ := h1
  clear hA0 hval0
  refine (walkC w0_0 w0_1 g0_3 g1).mono fun e W' ⟨he, bel⟩ => ?_
  subst he
  exact ⟨_, rfl, _, _, _, [], _, [], hW', trodAll_mk1 (shut_bool Try.underlying4 _), (trodAll_cons_mk (Below.trod laidOut' (by kernel_rfl) (of_decide_eq_true (by kernel_rfl)) k0 bel lt0) (trodAll_cons_mk (Below.trod laidOut' (by kernel_rfl) (of_decide_eq_true (by kernel_rfl)) k1 bel lt1) trodAll_mk0)), rfl, bel.frame _, fun h => by cases h⟩
theorem overC : Rows.reserveCodesRow.holds Try.pinned (OpenSpec.ofChange Rows.reserveCodesSpec) :=
  OpenClaim.holds_of_wide 5 Try.f5 rfl rfl rfl rfl rfl rfl rfl ⟨rfl, rfl, rfl, rfl, rfl⟩ rfl rfl rfl rfl rfl (by kernel_rfl) Try.func5 (by kernel_rfl)
    (of_decide_eq_true (by kernel_rfl)) (by unfold Func.isWrapper; first | (rw [if_pos (by decide +kernel)]; kernel_rfl) | (rw [if_neg (by decide +kernel)]; exact ⟨rfl, rfl⟩))
    (fun os started H enc _ => liftedC os started H enc)
theorem reserveCodes_holds : Rows.ReserveCodesSaid := overC
#print axioms reserveCodes_holds
end Go.Proofs.Ytmnlmghchegjaaa
