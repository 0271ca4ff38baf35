/- The reference of chapter 44: Remove, where there is nothing to remove. Conditions: as each theorem says. -/
import Derived.Test.YtlpbmlfejiaamaaNzh
set_option linter.unusedSimpArgs false
set_option linter.unusedVariables false
namespace Sx
open Go Go.Proofs
set_option maxRecDepth 100000
set_option pp.deepTerms true
set_option pp.maxSteps 10000000
abbrev cfM : List Nat := [45, 70, 71, 72, 73]
def modeM : Mode := { st := true, unr := false, inl := fun f => !hasN f cfM, sum := sumOf sN, keep := fun _ => none }
theorem goM {B : Base} (hB : B.ok) {ro : Hp} {f : FuncId} {R : Ending → World → Prop} {cs0 cs : List Prop} {c c0 c' : Cfg} (h0 : stepD Try.prog modeM ro c = some (cs0, c0)) (h : execG Try.prog modeM ro 400 cs0 c0 = (cs, c')) (hc : conj cs)
    (hr : Run Try.prog ro B f R c') : Run Try.prog ro B f R c := run_go mixed named hB sN_ok 400 h0 h hc hr
theorem removeR_no (K : Kn) (s : GS) (hs : GOk s) (l : List Int) (hk : KeysOf s.h l) (hl : l.length < 129) (vL : Value) (V : Nat → Value) (hR : ROK K s l vL V) (nm : Int) (h0 : 0 ≤ nm ∧ nm ≤ 4294967295) (hq : (grO s nm).2 ≠ 0) :
    HCX Try.prog K M0 44 [RG vL s.now, u32 nm] [] [] 0 (fun (_ : Unit) K' => K' = K) (fun _ => ⟨.tup [RG vL s.now, i64 (grO s nm).2], [], 0⟩) := by
  have hF := groupR_hcx K s hs l hk hl vL V hR nm h0
  generalize (grO s nm).1 = a at hF
  generalize (grO s nm).2 = b at hF hq
  refine hcx_of_run Try.func44 rfl (fun B hB hK hpin => ?_)
  refine goM hB rfl rfl (by first | exact conj_nil | simp [conj]) ?_
  refine run_callX hF named hB hK (fun _ h => h.elim) (.inr fun _ h => h) [] rfl rfl rfl rfl (by first | exact conj_nil | simp [conj]) (by first | exact conj_nil | simp [conj]) ?_
  rintro ⟨⟩ B2 K2 e2 hF2 hp2
  subst e2
  have hB2 := hF2.ok
  refine ⟨show 0 ≤ 0 by omega, _, _, _, rfl, rfl, rfl, ?_⟩
  refine goM hB2 rfl rfl (by first | exact conj_nil | simp [conj]) ?_
  refine run_tt (by simpa using hq) ?_
  refine goM hB2 rfl rfl (by first | exact conj_nil | simp [conj]) ?_
  exact run_retF hF2 (hpin.fz hF2 hp2) () rfl [] rfl rfl (by first | exact conj_nil | simp [conj]) rfl (by first | exact conj_nil | simp [conj])
end Sx
