/- The reference of chapter 44: State. Conditions: as each theorem says. -/
import Derived.Test.YtlpbmlfejiaamaaNza
set_option linter.unusedSimpArgs false
set_option linter.unusedVariables false
namespace Sx
open Go Go.Proofs
set_option maxRecDepth 100000
set_option pp.deepTerms true
set_option pp.maxSteps 10000000
abbrev cfR : List Nat := [70, 71, 72, 73]
def modeR : Mode := { st := true, unr := false, inl := fun f => !hasN f cfR, sum := sumOf sW, keep := fun _ => none }
theorem goR {B : Base} (hB : B.ok) {ro : Hp} {f : FuncId} {R : Ending → World → Prop} {cs0 cs : List Prop} {c c0 c' : Cfg} (h0 : stepD Try.prog modeR ro c = some (cs0, c0)) (h : execG Try.prog modeR ro 400 cs0 c0 = (cs, c')) (hc : conj cs)
    (hr : Run Try.prog ro B f R c') : Run Try.prog ro B f R c := run_go mixed named hB sW_ok 400 h0 h hc hr
theorem goT {B : Base} (hB : B.ok) {ro : Hp} {f : FuncId} {R : Ending → World → Prop} (S : List (Nat × Nat)) (m : Nat) {cs : List Prop} {c c' : Cfg} (h : execY Try.prog modeR ro S m [] c = (cs, c')) (hc : conj cs)
    (hr : Run Try.prog ro B f R c') : Run Try.prog ro B f R c := run_goY mixed named hB sW_ok S m h hc hr
abbrev RG (vL : Value) (now : Int) : SV := .agg [.val vL, i64 now]
theorem stateR_no (K : Kn) (s : GS) (vL : Value) (now g : Int) (ht : ¬ (0 ≤ now ∧ now ≤ 1099511627776)) : HCK Try.prog K 47 [RG vL s.now, i64 now, i64 g] [] [] 0 (fun _ : Unit => True) (fun _ => ⟨.tup [RG vL s.now, i64 0, i64 2], [], 0⟩) := by
  refine hck_of_run Try.func47 rfl (fun B hB hK hpin => ?_)
  refine goR hB rfl rfl (by first | exact conj_nil | simp [conj]) ?_
  refine run_callC (atR_no vL s.now now ht) named hB [] rfl rfl rfl rfl (by first | exact conj_nil | simp [conj]) (by first | exact conj_nil | simp [conj]) ?_
  rintro ⟨⟩ _
  refine ⟨show 0 ≤ 0 by omega, _, _, _, rfl, rfl, rfl, ?_⟩
  refine goR hB rfl rfl (by first | exact conj_nil | simp [conj]) ?_
  refine run_tt rfl ?_
  refine goR hB rfl rfl (by first | exact conj_nil | simp [conj]) ?_
  exact run_retC hpin () trivial [] rfl rfl (by first | exact conj_nil | simp [conj]) rfl (by first | exact conj_nil | simp [conj])
theorem stateR_lo (K : Kn) (s : GS) (vL : Value) (now g : Int) (ht : 0 ≤ now ∧ now ≤ 1099511627776) (hg : g < 1) : HCK Try.prog K 47 [RG vL s.now, i64 now, i64 g] [] [] 0 (fun _ : Unit => True) (fun _ => ⟨.tup [RG vL (max s.now now), i64 0, i64 3], [], 0⟩) := by
  refine hck_of_run Try.func47 rfl (fun B hB hK hpin => ?_)
  refine goR hB rfl rfl (by first | exact conj_nil | simp [conj]) ?_
  refine run_callC (atR_hc vL s.now now ht) named hB [] rfl rfl rfl rfl (by first | exact conj_nil | simp [conj]) (by first | exact conj_nil | simp [conj]) ?_
  rintro ⟨⟩ _
  refine ⟨show 0 ≤ 0 by omega, _, _, _, rfl, rfl, rfl, ?_⟩
  refine goT hB [(47, 22)] 400 rfl (by first | exact conj_nil | simp [conj]) ?_
  refine run_tt (by simpa using hg) ?_
  refine goR hB rfl rfl (by first | exact conj_nil | simp [conj]) ?_
  exact run_retC hpin () trivial [] rfl rfl (by first | exact conj_nil | simp [conj]) rfl (by first | exact conj_nil | simp [conj])
theorem stateR_hi (K : Kn) (s : GS) (hs : GOk s) (l : List Int) (vL : Value) (V : Nat → Value) (hR : ROK K s l vL V) (now g : Int) (ht : 0 ≤ now ∧ now ≤ 1099511627776) (hg : s.n < g) : HCK Try.prog K 47 [RG vL s.now, i64 now, i64 g] [] [] 0 (fun _ : Unit => True) (fun _ => ⟨.tup [RG vL (max s.now now), i64 0, i64 3], [], 0⟩) := by
  have hn0 := hs.n0
  have hG := hR.g
  have hn : (s.n.toNat : Int) = s.n := by omega
  generalize s.n.toNat = n at hG hn
  refine hck_of_run Try.func47 rfl (fun B hB hK hpin => ?_)
  refine goR hB rfl rfl (by first | exact conj_nil | simp [conj]) ?_
  refine run_callC (atR_hc vL s.now now ht) named hB [] rfl rfl rfl rfl (by first | exact conj_nil | simp [conj]) (by first | exact conj_nil | simp [conj]) ?_
  rintro ⟨⟩ _
  refine ⟨show 0 ≤ 0 by omega, _, _, _, rfl, rfl, rfl, ?_⟩
  refine goT hB [(47, 22)] 400 rfl (by first | exact conj_nil | simp [conj]) ?_
  refine run_ff (by simp; omega) ?_
  refine goR hB rfl rfl (by first | exact conj_nil | simp [conj]) ?_
  refine run_open hK 26 hG (by decide) rfl (fun off => ?_)
  refine goR hB rfl rfl (by first | exact conj_nil | simp [conj]) ?_
  refine run_tt (by simp; omega) ?_
  refine goR hB rfl rfl (by first | exact conj_nil | simp [conj]) ?_
  refine run_close (.inl rfl) ?_
  exact run_retC hpin () trivial [] rfl rfl (by first | exact conj_nil | simp [conj]) rfl (by first | exact conj_nil | simp [conj])
def rcSR (vL : Value) (now g r : Int) : RC := ⟨73, [RG vL now, i64 g], [], [], 0, i64 r, [], 0, []⟩
theorem ROK.at {K : Kn} {s : GS} {l : List Int} {vL : Value} {V : Nat → Value} (hR : ROK K s l vL V) (now : Int) : ROK K (gAt s now) l vL V := ⟨hR.g, hR.m⟩
theorem stR_int (K : Kn) (s : GS) (hs : GOk s) (l : List Int) (vL : Value) (V : Nat → Value) (hR : ROK K s l vL V) (g : Int) (hg : 1 ≤ g ∧ g ≤ s.n) : HCK Try.prog K 73 [RG vL s.now, i64 (g - 1)] [] [] 0 (fun _ : Unit => True) (fun _ => ⟨i64 (stO s g), [], 0⟩) := by
  have e : (((g - 1).toNat : Nat) : Int) = g - 1 := by omega
  have := stR_hck K s hs l vL V hR (g - 1).toNat (by omega)
  rw [e, show g - 1 + 1 = g by omega] at this
  exact this
theorem stateR_ok (K : Kn) (s : GS) (hs : GOk s) (l : List Int) (vL : Value) (V : Nat → Value) (hR : ROK K s l vL V) (now g : Int) (ht : 0 ≤ now ∧ now ≤ 1099511627776) (hg : 1 ≤ g ∧ g ≤ s.n) : HCK Try.prog K 47 [RG vL s.now, i64 now, i64 g] [] [] 0 (fun _ : Unit => True) (fun _ => ⟨.tup [RG vL (max s.now now), i64 (stO (gAt s now) g), i64 0], [], 0⟩) := by
  have hn0 := hs.n0
  have hn1 := hs.n1
  have hG := hR.g
  have hst := stR_int K (gAt s now) (hs.at ht) l vL V (hR.at now) g hg
  have hn : (s.n.toNat : Int) = s.n := by omega
  generalize s.n.toNat = n at hG hn
  generalize stO (gAt s now) g = r at hst
  refine hck_of_run Try.func47 rfl (fun B hB hK hpin => ?_)
  refine goR hB rfl rfl (by first | exact conj_nil | simp [conj]) ?_
  refine run_callC (atR_hc vL s.now now ht) named hB [] rfl rfl rfl rfl (by first | exact conj_nil | simp [conj]) (by first | exact conj_nil | simp [conj]) ?_
  rintro ⟨⟩ _
  refine ⟨show 0 ≤ 0 by omega, _, _, _, rfl, rfl, rfl, ?_⟩
  refine goT hB [(47, 22)] 400 rfl (by first | exact conj_nil | simp [conj]) ?_
  refine run_ff (by simp; omega) ?_
  refine goR hB rfl rfl (by first | exact conj_nil | simp [conj]) ?_
  refine run_open hK 26 hG (by decide) rfl (fun off => ?_)
  refine goR hB rfl rfl (by first | exact conj_nil | simp [conj]) ?_
  refine run_ff (by simp; omega) ?_
  refine goR hB rfl rfl (by first | exact conj_nil | simp [conj]) ?_
  refine run_close (.inl rfl) ?_
  refine run_draw0 mixed (fun t => ?_)
  refine run_drawK (M := modeR) (kn := K) hK 1 8 rfl named hB sW_ok [(8, rcSR vL (max s.now now) (g - 1) r)] ⟨⟨hst, rfl, Nat.le_refl _⟩, trivial⟩ rfl rfl rfl rfl rfl rfl ?_ (fun t => ?_)
  · simp [conj, Fits_i64]; omega
  refine run_drawE rfl ?_
  refine goR hB rfl rfl (by first | exact conj_nil | simp [conj]) ?_
  exact run_retC hpin () trivial [] rfl rfl (by first | exact conj_nil | simp [conj]) rfl (by first | exact conj_nil | simp [conj])
end Sx
