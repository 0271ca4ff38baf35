/- The law's made. Conditions: as each theorem says. -/
import Derived.Test.YtcfifbpkngplmaaXan
set_option linter.unusedSimpArgs false
set_option linter.unusedVariables false
namespace Sx
open Go Go.Proofs
set_option maxRecDepth 100000
set_option pp.deepTerms true
set_option pp.maxSteps 10000000
abbrev cfV : List Nat := 8 :: 22 :: 23 :: cfJ
def modeV : Mode := { st := true, unr := false, inl := fun f => !hasN f cfV, sum := sumOf [], keep := fun _ => none }
theorem goV {B : Base} (hB : B.ok) {ro : Hp} {f : FuncId} {R : Ending → World → Prop} {cs0 cs : List Prop} {c c0 c' : Cfg} (h0 : stepD Try.prog modeV ro c = some (cs0, c0)) (h : execG Try.prog modeV ro 400 cs0 c0 = (cs, c')) (hc : conj cs)
    (hr : Run Try.prog ro B f R c') : Run Try.prog ro B f R c := run_go mixed named hB (sumOk_nil _) 400 h0 h hc hr
theorem goVT {B : Base} (hB : B.ok) {ro : Hp} {f : FuncId} {R : Ending → World → Prop} (S : List (Nat × Nat)) (m : Nat) {cs : List Prop} {c c' : Cfg} (h : execY Try.prog modeV ro S m [] c = (cs, c')) (hc : conj cs)
    (hr : Run Try.prog ro B f R c') : Run Try.prog ro B f R c := run_goY mixed named hB (sumOk_nil _) S m h hc hr
abbrev refZ : SV := .agg [i64 0, i64 0, .nilsl]
theorem made_big (n u : Int) (h1 : 400 < n) (h2 : n ≤ 16777216) : HC Try.prog 22 [i64 n, i64 u] [] [] 0 (fun _ : Unit => True) (fun _ => ⟨.tup [.nil, refZ, .ff], [], 0⟩) := by
  refine hc_of_run Try.func22 rfl (fun B hB hpin => ?_)
  refine goVT hB [(22, 12)] 400 rfl (by first | exact conj_nil | simp [conj]) ?_
  refine run_tt (by simpa using h1) ?_
  refine goVT hB [(22, 15)] 400 rfl (by first | exact conj_nil | simp [conj]) ?_
  refine run_tt (by simpa using h2) ?_
  refine goV hB rfl rfl (by first | exact conj_nil | simp [conj]) ?_
  refine run_retC hpin () trivial [] rfl rfl (by first | exact conj_nil | simp [conj]) rfl ?_
  simp [conj, less_rfl]
theorem made_bad (n u : Int) (h : bad n u) (h1 : ¬ (400 < n ∧ n ≤ 16777216)) : HC Try.prog 22 [i64 n, i64 u] [] [] 0 (fun _ : Unit => True) (fun _ => ⟨.tup [.nil, refZ, .ff], [], 0⟩) := by
  refine hc_of_run Try.func22 rfl (fun B hB hpin => ?_)
  refine goVT hB [(22, 12)] 400 rfl (by first | exact conj_nil | simp [conj]) ?_
  by_cases h2 : 400 < n
  · refine run_tt (by simpa using h2) ?_
    refine goVT hB [(22, 15)] 400 rfl (by first | exact conj_nil | simp [conj]) ?_
    refine run_ff (by simp; omega) ?_
    refine goV hB rfl rfl (by first | exact conj_nil | simp [conj]) ?_
    refine run_callC (new_no n u h) named hB [] rfl rfl rfl rfl (by first | exact conj_nil | simp [conj]) (by simp [conj, less_rfl]) ?_
    rintro ⟨⟩ _
    refine ⟨show 0 ≤ 0 by omega, _, _, _, rfl, rfl, rfl, ?_⟩
    refine goV hB rfl rfl (by first | exact conj_nil | simp [conj]) ?_
    refine run_callC (newR_no n u h) named hB [] rfl rfl rfl rfl (by first | exact conj_nil | simp [conj]) (by simp [conj, less_rfl]) ?_
    rintro ⟨⟩ _
    refine ⟨show 0 ≤ 0 by omega, _, _, _, rfl, rfl, rfl, ?_⟩
    refine goV hB rfl rfl (by first | exact conj_nil | simp [conj]) ?_
    refine run_draw0 mixed (fun t => ?_)
    refine run_drawC (M := modeV) 1 20 rfl named hB (sumOk_nil _) [(5, rcNum 2)] ⟨⟨num_hc 2, rfl, Nat.le_refl _⟩, trivial⟩ rfl rfl rfl rfl rfl rfl (by simp [conj, isPt23, isBo4]) (fun t => ?_)
    refine run_drawE rfl ?_
    refine goV hB rfl rfl (by first | exact conj_nil | simp [conj]) ?_
    refine run_retC hpin () trivial [] rfl rfl (by first | exact conj_nil | simp [conj]) rfl ?_
    simp [conj, less_rfl]
  · refine run_ff (by simpa using h2) ?_
    refine goV hB rfl rfl (by first | exact conj_nil | simp [conj]) ?_
    refine run_callC (new_no n u h) named hB [] rfl rfl rfl rfl (by first | exact conj_nil | simp [conj]) (by simp [conj, less_rfl]) ?_
    rintro ⟨⟩ _
    refine ⟨show 0 ≤ 0 by omega, _, _, _, rfl, rfl, rfl, ?_⟩
    refine goV hB rfl rfl (by first | exact conj_nil | simp [conj]) ?_
    refine run_callC (newR_no n u h) named hB [] rfl rfl rfl rfl (by first | exact conj_nil | simp [conj]) (by simp [conj, less_rfl]) ?_
    rintro ⟨⟩ _
    refine ⟨show 0 ≤ 0 by omega, _, _, _, rfl, rfl, rfl, ?_⟩
    refine goV hB rfl rfl (by first | exact conj_nil | simp [conj]) ?_
    refine run_draw0 mixed (fun t => ?_)
    refine run_drawC (M := modeV) 1 20 rfl named hB (sumOk_nil _) [(5, rcNum 2)] ⟨⟨num_hc 2, rfl, Nat.le_refl _⟩, trivial⟩ rfl rfl rfl rfl rfl rfl (by simp [conj, isPt23, isBo4]) (fun t => ?_)
    refine run_drawE rfl ?_
    refine goV hB rfl rfl (by first | exact conj_nil | simp [conj]) ?_
    refine run_retC hpin () trivial [] rfl rfl (by first | exact conj_nil | simp [conj]) rfl ?_
    simp [conj, less_rfl]
theorem inv0 (n u : Int) (h : ¬ bad n u) (h1 : n ≤ 400) : PInv (s0 n u) [] := by
  have h0 : 1 ≤ n ∧ n ≤ 16777216 ∧ 1 ≤ u ∧ u ≤ 4096 ∧ u ≤ n := by
    refine ⟨?_, ?_, ?_, ?_, ?_⟩ <;> (refine Int.not_lt.1 fun q => h ?_; simp [bad, q])
  obtain ⟨a0, a1, a2, a3, a4⟩ := h0
  have d0 : 0 ≤ n / u := Int.ediv_nonneg (by omega) (by omega)
  have d1 : n / u ≤ n := Int.ediv_le_self u (by omega)
  have d2 := Int.mul_ediv_self_le (x := n) (k := u) (by omega)
  have d3 := Int.mul_nonneg (show 0 ≤ u by omega) d0
  refine ⟨by show 0 < u; omega, by show u ≤ 400; omega, d0, by show n / u ≤ 400; omega, d3, by show u * (n / u) ≤ 400; omega, ⟨List.Pairwise.nil, fun a => ⟨fun q => (by cases q), fun q => (by cases q)⟩⟩, fun a q => (by cases q), fun a q => (by cases q), fun a _ q => (by cases q), fun a _ q => (by cases q), fun a _ _ _ q => (by cases q), List.Pairwise.nil, fun x q => (by cases q), Int.le_refl _, d0, fun x hx => ⟨fun ⟨a, q, e, _⟩ => (by cases e), fun ⟨e, _⟩ => by have e : x < 0 := e; omega⟩, rfl, fun _ => Nat.zero_le _⟩
theorem made_ok (K : Kn) (n u : Int) (h : ¬ bad n u) (h1 : n ≤ 400) : HCX Try.prog K M0 22 [i64 n, i64 u] [] [] 0 (fun (w : Value × Value) K' => AInv K' K' (s0 n u) (z0 w.1) [] w.2 (fun _ => .slice none 0 0)) (fun w => ⟨.tup [.ptr 0 0, rG u (n / u) w.2, .tt], hpX (s0 n u) (z0 w.1), 2⟩) := by
  refine hcx_of_run Try.func22 rfl (fun B hB hK hpin => ?_)
  refine goVT hB [(22, 12)] 400 rfl (by first | exact conj_nil | simp [conj]) ?_
  refine run_ff (by simp; omega) ?_
  refine goV hB rfl rfl (by first | exact conj_nil | simp [conj]) ?_
  refine run_callX (new_ok K n u h) named hB hK (fun _ h => h.elim) (.inl rfl) [] rfl rfl rfl rfl (by first | exact conj_nil | simp [conj]) (by simp [conj, less_rfl]) ?_
  rintro w B1 K1 hw hF1 hp1
  have hB1 := hF1.ok
  have hpin1 := hpin.fz hF1 hp1
  refine ⟨show 0 ≤ 2 by omega, _, _, _, rfl, rfl, rfl, ?_⟩
  refine goV hB1 rfl rfl (by first | exact conj_nil | simp [conj]) ?_
  refine run_callC (newR_ok n u h) named hB1 [] rfl rfl rfl rfl (by first | exact conj_nil | simp [conj]) (by simp [conj, less_rfl]) ?_
  rintro ⟨⟩ _
  refine ⟨show 0 ≤ 0 by omega, _, _, _, rfl, rfl, rfl, ?_⟩
  refine goV hB1 rfl rfl (by first | exact conj_nil | simp [conj]) ?_
  refine run_draw0 mixed (fun t => ?_)
  refine run_drawC (M := modeV) 1 20 rfl named hB1 (sumOk_nil _) [(7, rcNum 0)] ⟨⟨num_hc 0, rfl, Nat.le_refl _⟩, trivial⟩ rfl rfl rfl rfl rfl rfl (by simp [conj, isPt23, isBo4]) (fun t => ?_)
  refine run_drawE rfl ?_
  refine goVT hB1 [] 1 rfl (by first | exact conj_nil | simp [conj]) ?_
  refine run_to hpin1 [0, 1, 2, 40] (nx' := 4) (rest' := []) (sl' := [(6, .tt), (5, .ptr 0 0), (4, .ptr 1 0)]) (hp' := [(0, .cells [i64 u, i64 (n / u), .sq 3 0 0 3 0 .own] 50), (1, xC w 0 (n / u) u 2), (2, amap (s0 n u).h (s0 n u).sz (z0 w).V), (3, .row 0 0 0 3 (rrow (rsOf (s0 n u) []) (fun _ => .slice none 0 0)) 60)]) rfl rfl ?_ ?_
  · simp [conj, less_rfl]
  refine run_freezeB (L := 3) (off := 0) (sz := 3) (m := 0) (ap := .own) hB1 hF1.le 0 2 rfl rfl rfl rfl (Nat.le_refl _) (fun a c _ _ => closed_rrow _ _ a c) rfl (fun _ => rfl) (fun _ => rfl) (fun v B2 K2 hv hF2 hp2 => ?_)
  have hA : AInv K2 K2 (s0 n u) (z0 w) [] v (fun _ => .slice none 0 0) := ⟨fun _ _ h => h, inv0 n u h h1, ⟨hw.fz hF2, fun a q => (by cases q), fun a q => (by cases q), fun a q => (by cases q), fun a _ q => (by cases q)⟩, ⟨hv, fun i hi => absurd hi (Nat.not_lt_zero _)⟩⟩
  refine run_retF (hF1.trans0 hF2 hK fun _ h => h.elim) (hpin1.fz hF2 hp2) (w, v) hA [1, 2] rfl rfl (by first | exact conj_nil | simp [conj]) rfl ?_
  simp [conj, less_rfl]
end Sx
