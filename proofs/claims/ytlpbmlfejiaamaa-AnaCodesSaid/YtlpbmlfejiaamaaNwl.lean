/- AnaCodes holds: for any arguments the law's function returns true, panics never and leaves its arguments as they were. No condition. -/
import Derived.Test.YtlpbmlfejiaamaaRows
import Derived.Test.YtlpbmlfejiaamaaOwnX14
import Derived.Test.YtlpbmlfejiaamaaEngX5
import Derived.WalkKit
import Derived.ProofKit
import Derived.OpenShut
import Derived.ChangeOld
import Derived.Below
import Derived.Lib.SmallJoins
import Derived.Laws.IdiomArrays
set_option linter.unusedSimpArgs false
set_option linter.unusedVariables false
namespace Go.Proofs.Ytlpbmlfejiaamaa
open Go.ChangeShapes Go.WideShapes Go.ChangeAt Go.RowKit Go.Joins
theorem own' : ownKnob Try.prog.godebug = none := by kernel_rfl
theorem laidOut' : laidOutB Try.prog = true := by kernel_rfl
theorem trod_struct2 {H : Type} {enc : TypeId × Value → H} {P : Program} {w : World} {base : Nat} {spare : Nat → Bool} {held : Bool} {t : TypeId} {f0 f1 : Field} {fuel : Nat} {cs : List Value} {x : DataW H × List MemPlace} (ht : P.underlying t = some (.struct #[f0, f1])) (h : DataW.trod enc P w base spare held fuel t cs = some x) :
    ∃ y0 y1 n, cs.length = P.cellsOf t ∧ DataW.trod enc P w base spare held n f0.type ((cs.drop f0.offset).take (P.cellsOf f0.type)) = some y0 ∧ DataW.trod enc P w base spare held n f1.type ((cs.drop f1.offset).take (P.cellsOf f1.type)) = some y1 := by
  obtain ⟨xs, n, _, rfl, hl, hlen, hf⟩ := DataW.trod_struct ht h
  match xs, hlen with
  | [y0, y1], _ => exact ⟨y0, y1, n, hl, by simpa using hf 0 f0 rfl, by simpa using hf 1 f1 rfl⟩
theorem array2 {α : Type} {cs : Array α} (h : cs.size = 2) : ∃ c0 c1, cs = #[c0, c1] := by
  obtain ⟨l⟩ := cs
  match l, h with
  | [c0, c1], _ => exact ⟨c0, c1, rfl⟩
theorem open_agg2 {H : Type} {enc : TypeId × Value → H} {P : Program} {w : World} {base : Nat} {spare : Nat → Bool} {held : Bool} {r : Reach} {b0 : Nat} {t : TypeId} {f0 f1 : Field} {v : Value} {d : DataW H} {p : List MemPlace} (hs : P.underlying t = some (.struct #[f0, f1])) (hone : Go.Deep.oneCellFields P #[f0, f1] = true) (hC : P.cellsOf t = 2)
    (hv : Value.okWide P w r b0 t v) (h : DataW.Trod enc P w base spare held t v d p) :
    ∃ (v0 v1 : Value) (y0 y1 : DataW H × List MemPlace) (n : Nat), v = .agg #[v0, v1] ∧ True ∧ True ∧ DataW.trod enc P w base spare held n f0.type [v0] = some y0 ∧ DataW.trod enc P w base spare held n f1.type [v1] = some y1 := by
  obtain ⟨cs, rfl, hsz⟩ := okWide_struct hs hv
  obtain ⟨c0, c1, rfl⟩ := array2 (hsz.trans hC)
  obtain ⟨fuel, hf⟩ := h
  obtain ⟨y0, y1, n, _, h0, h1⟩ := trod_struct2 hs hf
  obtain ⟨o0, k0⟩ := Go.Deep.hone_of hone 0 f0 rfl
  obtain ⟨o1, k1⟩ := Go.Deep.hone_of hone 1 f1 rfl
  exact ⟨c0, c1, y0, y1, n, rfl, trivial, trivial, by simpa [Value.cells, o0, k0] using h0, by simpa [Value.cells, o1, k1] using h1⟩
theorem trod_struct4 {H : Type} {enc : TypeId × Value → H} {P : Program} {w : World} {base : Nat} {spare : Nat → Bool} {held : Bool} {t : TypeId} {f0 f1 f2 f3 : Field} {fuel : Nat} {cs : List Value} {x : DataW H × List MemPlace} (ht : P.underlying t = some (.struct #[f0, f1, f2, f3])) (h : DataW.trod enc P w base spare held fuel t cs = some x) :
    ∃ y0 y1 y2 y3 n, cs.length = P.cellsOf t ∧ DataW.trod enc P w base spare held n f0.type ((cs.drop f0.offset).take (P.cellsOf f0.type)) = some y0 ∧ DataW.trod enc P w base spare held n f1.type ((cs.drop f1.offset).take (P.cellsOf f1.type)) = some y1 ∧ DataW.trod enc P w base spare held n f2.type ((cs.drop f2.offset).take (P.cellsOf f2.type)) = some y2 ∧ DataW.trod enc P w base spare held n f3.type ((cs.drop f3.offset).take (P.cellsOf f3.type)) = some y3 := by
  obtain ⟨xs, n, _, rfl, hl, hlen, hf⟩ := DataW.trod_struct ht h
  match xs, hlen with
  | [y0, y1, y2, y3], _ => exact ⟨y0, y1, y2, y3, n, hl, by simpa using hf 0 f0 rfl, by simpa using hf 1 f1 rfl, by simpa using hf 2 f2 rfl, by simpa using hf 3 f3 rfl⟩
theorem cells81' : Try.prog.cellsOf 81 = 4 := by kernel_rfl
theorem cells3' : Try.prog.cellsOf 3 = 1 := by kernel_rfl
theorem cells31' : Try.prog.cellsOf 31 = 1 := by kernel_rfl
theorem cells49' : Try.prog.cellsOf 49 = 1 := by kernel_rfl
theorem cells48' : Try.prog.cellsOf 48 = 1 := by kernel_rfl
theorem cells29' : Try.prog.cellsOf 29 = 1 := by kernel_rfl
theorem cells5' : Try.prog.cellsOf 5 = 1 := by kernel_rfl
theorem wf_u32 {n : Int} (h : (Lit.int .u32 n).wf = true) : 0 ≤ n ∧ n ≤ 4294967295 := by
  simp [Lit.wf, IntKind.min, IntKind.max, IntKind.signed, IntKind.bits] at h
  omega
theorem wf_u64 {n : Int} (h : (Lit.int .u64 n).wf = true) : 0 ≤ n ∧ n < 18446744073709551616 := by
  simp [Lit.wf, IntKind.min, IntKind.max, IntKind.signed, IntKind.bits] at h
  omega
theorem wf_u8 {n : Int} (h : (Lit.int .u8 n).wf = true) : 0 ≤ n ∧ n < 256 := by
  simp [Lit.wf, IntKind.min, IntKind.max, IntKind.signed, IntKind.bits] at h
  omega
/-- No slice that came in is longer than an int says. -/
theorem froz_max {H : Type} {enc : TypeId × Value → H} {w : World} {t e : TypeId} {fuel : Nat} {v : Value} {x : DataW H × List MemPlace} (ht : Try.prog.underlying t = some (.slice e)) (h : DataW.trod enc Try.prog w 0 (fun _ => true) true fuel t [v] = some x)
    {K : Sx.Kn} {n sz : Nat} {f : Nat → Nat → Sx.SV} (hF : Sx.Froz K v n sz f) : n ≤ 9223372036854775807 := by
  obtain ⟨base, room, e1, _, _⟩ := hF
  rcases Deep.open_slice ht h with ⟨hv, _⟩ | ⟨a, len, cap, m, n', D, Pl, hv, _, hl, hm, _⟩
  · obtain rfl : v = .slice none 0 0 := by simpa using hv
    simp at e1
    omega
  · obtain rfl : v = .slice (some a) len cap := by simpa using hv
    simp at e1
    have e : maxLen = 9223372036854775807 := by decide
    omega
/-- Names that came in. -/
theorem names_arg {H : Type} {enc : TypeId × Value → H} {w : World} {v : Value} {x : DataW H × List MemPlace} {fuel : Nat} (h : DataW.trod enc Try.prog w 0 (fun _ => true) true fuel 48 [v] = some x) :
    ∃ l : List Int, Sx.Froz (Sx.K0 w) v l.length 1 (Sx.rowL .u32 l) ∧ (∀ x ∈ l, 0 ≤ x ∧ x ≤ 4294967295) ∧ l.length ≤ 9223372036854775807 := by
  obtain ⟨n, C, hC, hk⟩ := Sx.froz_of (sz := 1) Try.underlying48 cells29' (by decide) h
  have one : ∀ i, i < n → ∃ x : Int, C i = [.int .u32 x] ∧ 0 ≤ x ∧ x ≤ 4294967295 := by
    intro i hi
    obtain ⟨m, y, hy⟩ := hC i hi
    obtain ⟨x, e, _, w0⟩ := DataW.trod_int Try.underlying29 hy
    exact ⟨x, e, wf_u32 w0⟩
  obtain ⟨l, hl⟩ := Deep.choose_lt one
  have hF := hk (Sx.rowL .u32 ((List.range n).map l)) (fun i k hi hk => by
    rw [(hl i hi).1]
    match k, hk with
    | 0, _ => exact ⟨_, rfl, by simp [Sx.rowL, hi, Sx.Rel]⟩)
  have hn : ((List.range n).map l).length = n := by simp
  refine ⟨(List.range n).map l, by rw [hn]; exact hF, fun x hx => ?_, by rw [hn]; exact froz_max Try.underlying48 h hF⟩
  simp only [List.mem_map, List.mem_range] at hx
  obtain ⟨i, hi, rfl⟩ := hx
  exact (hl i hi).2
/-- Bytes that came in. -/
theorem bytes_arg {H : Type} {enc : TypeId × Value → H} {w : World} {v : Value} {x : DataW H × List MemPlace} {fuel : Nat} (h : DataW.trod enc Try.prog w 0 (fun _ => true) true fuel 79 [v] = some x) :
    ∃ b : List Int, Sx.Froz (Sx.K0 w) v b.length 1 (Sx.rowL .u8 b) ∧ Sx.Bytes b := by
  obtain ⟨n, C, hC, hk⟩ := Sx.froz_of (sz := 1) Try.underlying79 cells5' (by decide) h
  have one : ∀ i, i < n → ∃ x : Int, C i = [.int .u8 x] ∧ 0 ≤ x ∧ x < 256 := by
    intro i hi
    obtain ⟨m, y, hy⟩ := hC i hi
    obtain ⟨x, e, _, w0⟩ := DataW.trod_int Try.underlying5 hy
    exact ⟨x, e, wf_u8 w0⟩
  obtain ⟨l, hl⟩ := Deep.choose_lt one
  have hF := hk (Sx.rowL .u8 ((List.range n).map l)) (fun i k hi hk => by
    rw [(hl i hi).1]
    match k, hk with
    | 0, _ => exact ⟨_, rfl, by simp [Sx.rowL, hi, Sx.Rel]⟩)
  refine ⟨(List.range n).map l, by simpa using hF, fun x hx => ?_⟩
  simp only [List.mem_map, List.mem_range] at hx
  obtain ⟨i, hi, rfl⟩ := hx
  exact (hl i hi).2
/-- Groups that came in. -/
theorem log_arg {H : Type} {enc : TypeId × Value → H} {w : World} {T : Int} {v : Value} {x : DataW H × List MemPlace} {fuel : Nat} (hT : (Lit.int .u64 T).wf = true) (h : DataW.trod enc Try.prog w 0 (fun _ => true) true fuel 65 [v] = some x) :
    ∃ (A : Sx.AL) (V : Nat → Value), A.T = T ∧ Sx.Froz (Sx.K0 w) v A.n 4 (Sx.alrow A V) ∧ Sx.AOK (Sx.K0 w) A V ∧ Sx.ARng A ∧ A.n ≤ 9223372036854775807 := by
  obtain ⟨n, C, hC, hk⟩ := Sx.froz_of (sz := 4) Try.underlying65 cells81' (by decide) h
  have one : ∀ i, i < n → ∃ p : Int × Int × Int × Value × List Int, C i = [.int .i64 p.1, .int .i64 p.2.1, .int .u64 p.2.2.1, p.2.2.2.1] ∧ p.2.2.2.1.oneCell' = true ∧ Sx.Froz (Sx.K0 w) p.2.2.2.1 p.2.2.2.2.length 1 (Sx.rowL .u32 p.2.2.2.2) ∧ (0 ≤ p.2.2.1 ∧ p.2.2.1 < 18446744073709551616) ∧ (∀ x ∈ p.2.2.2.2, 0 ≤ x ∧ x ≤ 4294967295) ∧ p.2.2.2.2.length ≤ 9223372036854775807 := by
    intro i hi
    obtain ⟨m, y, hy⟩ := hC i hi
    obtain ⟨y0, y1, y2, y3, m', hl, g0, g1, g2, g3⟩ := trod_struct4 Try.underlying81 hy
    rw [cells81'] at hl
    obtain ⟨c0, c1, c2, c3, e⟩ : ∃ c0 c1 c2 c3, C i = [c0, c1, c2, c3] := by
      match C i, hl with
      | [c0, c1, c2, c3], _ => exact ⟨c0, c1, c2, c3, rfl⟩
    rw [e] at g0 g1 g2 g3
    obtain ⟨a0, e0, _, _⟩ := DataW.trod_int Try.underlying3 g0
    obtain ⟨a1, e1, _, _⟩ := DataW.trod_int Try.underlying31 g1
    obtain ⟨a2, e2, _, w2⟩ := DataW.trod_int Try.underlying49 g2
    simp [cells3', cells31', cells49'] at e0 e1 e2
    simp [cells3', cells31', cells49', cells48'] at g3
    obtain ⟨v', hv', hone⟩ := Sx.slice_one Try.underlying48 g3
    obtain rfl : c3 = v' := by simpa using hv'
    obtain ⟨l, hF, hr, hL⟩ := names_arg g3
    exact ⟨(a0, a1, a2, c3, l), by rw [e, e0, e1, e2], hone, hF, wf_u64 w2, hr, hL⟩
  have : Inhabited (Int × Int × Int × Value × List Int) := ⟨(0, 0, 0, .slice none 0 0, [])⟩
  obtain ⟨p, hp⟩ := Deep.choose_lt one
  let A : Sx.AL := ⟨T, n, fun i => (p i).1, fun i => (p i).2.1, fun i => (p i).2.2.1, fun i => (p i).2.2.2.2⟩
  have hF := hk (Sx.alrow A fun i => (p i).2.2.2.1) (fun i k hi hk => by
    rw [(hp i hi).1]
    match k, hk with
    | 0, _ => exact ⟨_, rfl, rfl⟩
    | 1, _ => exact ⟨_, rfl, rfl⟩
    | 2, _ => exact ⟨_, rfl, rfl⟩
    | 3, _ => exact ⟨_, rfl, rfl, (hp i hi).2.1⟩)
  exact ⟨A, fun i => (p i).2.2.2.1, rfl, hF, fun i hi => (hp i hi).2.2.1, ⟨wf_u64 hT, fun i hi => (hp i hi).2.2.2.1, fun i hi => (hp i hi).2.2.2.2.1, fun i hi => (hp i hi).2.2.2.2.2⟩, froz_max Try.underlying65 h hF⟩
theorem walkC {H : Type} {enc : TypeId × Value → H} {w : World} {T : Int} {v v' : Value} {x x' : DataW H × List MemPlace} {fuel fuel' : Nat} (hT : (Lit.int .u64 T).wf = true)
    (h : DataW.trod enc Try.prog w 0 (fun _ => true) true fuel 65 [v] = some x) (h' : DataW.trod enc Try.prog w 0 (fun _ => true) true fuel' 79 [v'] = some x') :
    Calls Try.prog 7 #[.agg #[.int .u64 T, v], v'] w fun e w' => e = .returned (.bool true) ∧ Below w.heap.size w w' := by
  obtain ⟨A, V, rfl, hF, hV, r, hn⟩ := log_arg hT h
  obtain ⟨b, hF', hb⟩ := bytes_arg h'
  obtain ⟨o1, β1, _, r1, s1⟩ := Sx.sat_open (K := Sx.K0 w) (B := Sx.Base.all w) (fun _ _ h => h) hF (by decide) (Sx.sat_all w)
  obtain ⟨o2, β2, l2, r2, s2⟩ := Sx.sat_open (K := Sx.K0 w) (B := Sx.Base.all w) (fun _ _ h => h) hF' (by decide) s1
  exact (Sx.codes_hcx (Sx.K0 w) A V hV r hn b hb o1 o2 (Sx.Base.all w) β2 w [.agg #[.int .u64 A.T, v], v'] (Sx.Base.all_ok w) (fun _ _ h => h)
    ⟨_, _, rfl, ⟨_, rfl, _, _, rfl, rfl, _, _, rfl, Sx.Rel.mono l2 _ _ r1, rfl⟩, _, _, rfl, r2, rfl⟩ s2).mono fun e w' he => Sx.hendX_below he
set_option maxRecDepth 100000 in
theorem liftedC (os : Os) (started : os.Started) (H : Type) (enc : TypeId × Value → H) :
    ReturnsInHanded {} Try.checked os 7 .any (Rows.anaCodesSpec.pre6 enc Try.prog Try.f7 Rows.anaCodesRow.domain false) (Rows.anaCodesSpec.post enc Try.prog Try.f7 false true false false) := by
  refine returnsInHanded_of_change (C := Try.checked) own' started (by kernel_rfl) Try.func7
    (ChangeSpec.witness6 (enc := enc) (C := Try.checked) false ⟨#[], #[.agg #[.int .u64 0, .slice none 0 0], .slice none 0 0], []⟩ 8 (by kernel_rfl) (by kernel_rfl) (by kernel_rfl) (by kernel_rfl)) ?_
  intro W base args ds gs before hval0 hW hcnd _
  have hval : ∀ (j : Nat) t v, Try.f7.params[j]? = some t → args[j]? = some v → Value.okWide Try.prog W .any base t v := hval0
  have hW' := hW
  obtain ⟨p, q, hA0, hV, rfl, hfz, hnd⟩ := hW
  have hA : DataW.TrodAll enc Try.prog W 0 (fun _ => true) true Try.f7.params.toList args.toList ds p := hA0
  rw [Try.params7] at hA hval
  obtain ⟨v0, vs0, d0, ds0, p0, q0, hargs, rfl, rfl, h0, r0⟩ := trodAll_cons hA
  obtain ⟨v1, vs1, d1, ds1, p1, q1, rfl, rfl, rfl, h1, r1⟩ := trodAll_cons r0
  obtain ⟨rfl, rfl, rfl⟩ := trodAll_nil r1
  obtain rfl : args = #[v0, v1] := by cases args; simp_all
  obtain ⟨rfl, rfl⟩ := trodVars_none hV
  have k0 := h0
  have k1 := h1
  have lt0 : ∀ x ∈ p0, x.block < W.heap.size := by obtain ⟨m, hm⟩ := k0; exact DataW.trod_lt m _ _ _ hm
  have lt1 : ∀ x ∈ p1, x.block < W.heap.size := by obtain ⟨m, hm⟩ := k1; exact DataW.trod_lt m _ _ _ hm
  obtain ⟨c0_0, c0_1, y0_0, y0_1, m0, rfl, _, _, g0_0, g0_1⟩ := open_agg2 Try.underlying67 (by kernel_rfl) (by kernel_rfl) (hval 0 67 v0 rfl rfl) h0
  obtain ⟨x0_0, e0_0, _, w0_0⟩ := DataW.trod_int Try.underlying49 g0_0
  simp at e0_0
  subst e0_0
  obtain ⟨a1, len1, cap1, rfl⟩ := okWide_slice Try.underlying79 (hval 1 79 v1 rfl rfl)
  obtain ⟨fuel1, g1⟩ := h1
  clear hA0 hval0
  refine (walkC w0_0 g0_1 g1).mono fun e W' ⟨he, bel⟩ => ?_
  subst he
  exact ⟨_, rfl, _, _, _, [], _, [], hW', trodAll_mk1 (shut_bool Try.underlying4 _), (trodAll_cons_mk (Below.trod laidOut' (by kernel_rfl) (of_decide_eq_true (by kernel_rfl)) k0 bel lt0) (trodAll_cons_mk (Below.trod laidOut' (by kernel_rfl) (of_decide_eq_true (by kernel_rfl)) k1 bel lt1) trodAll_mk0)), rfl, bel.frame _, fun h => by cases h⟩
theorem overC : Rows.anaCodesRow.holds Try.pinned (OpenSpec.ofChange Rows.anaCodesSpec) :=
  OpenClaim.holds_of_wide 7 Try.f7 rfl rfl rfl rfl rfl rfl rfl ⟨rfl, rfl, rfl, rfl, rfl⟩ rfl rfl rfl rfl rfl (by kernel_rfl) Try.func7 (by kernel_rfl)
    (of_decide_eq_true (by kernel_rfl)) (by unfold Func.isWrapper; first | (rw [if_pos (by decide +kernel)]; kernel_rfl) | (rw [if_neg (by decide +kernel)]; exact ⟨rfl, rfl⟩))
    (fun os started H enc _ => liftedC os started H enc)
theorem anaCodes_holds : Rows.AnaCodesSaid := overC
#print axioms anaCodes_holds
end Go.Proofs.Ytlpbmlfejiaamaa
