/- The reference of chapter 44: Group. Conditions: as each theorem says. -/
import Derived.Test.YtlpbmlfejiaamaaNzd
set_option linter.unusedSimpArgs false
set_option linter.unusedVariables false
namespace Sx
open Go Go.Proofs
set_option maxRecDepth 100000
set_option pp.deepTerms true
set_option pp.maxSteps 10000000
theorem NameR_pure (n : Int) (h0 : 0 ≤ n ∧ n ≤ 4294967295) : Pure Try.prog 64 [.int .u32 n] (.sb (nameOk n)) := by
  refine pure_of_run Try.func64 rfl (fun w' => ?_)
  refine goU (Base.all_ok _) (sumOk_nil _) rfl rfl (by simp [conj]) ?_
  refine fin rfl (by simp [conj]) rfl ?_
  simp only [nameOk]
  congr 1
  by_cases h1 : n = 0 <;> by_cases h2 : n = 4294967295 <;> simp [h1, h2] <;> omega
def FNameR : List SV → Option (List Prop × SV)
  | [.int .u32 n] => some ([0 ≤ n ∧ n ≤ 4294967295], .sb (nameOk n))
  | _ => none
theorem FNameR_ok : PureOk Try.prog 64 FNameR := by
  intro xs cs r h hc
  unfold FNameR at h
  split at h <;> first | exact (none_ne h).elim | skip
  simp only [Option.some.injEq, Prod.mk.injEq] at h; obtain ⟨rfl, rfl⟩ := h
  exact ⟨rfl, NameR_pure _ (hc _ (List.mem_singleton.2 rfl))⟩
def sN : SumL := [(64, FNameR)]
theorem sN_ok : SumOk Try.prog (sumOf sN) := sumOk_cons FNameR_ok (sumOk_nil _)
def modeN : Mode := { st := true, unr := false, inl := fun f => !hasN f cfR, sum := sumOf sN, keep := fun _ => none }
theorem goN {B : Base} (hB : B.ok) {ro : Hp} {f : FuncId} {R : Ending → World → Prop} {cs0 cs : List Prop} {c c0 c' : Cfg} (h0 : stepD Try.prog modeN ro c = some (cs0, c0)) (h : execG Try.prog modeN ro 400 cs0 c0 = (cs, c')) (hc : conj cs)
    (hr : Run Try.prog ro B f R c') : Run Try.prog ro B f R c := run_go mixed named hB sN_ok 400 h0 h hc hr
abbrev grO (s : GS) (nm : Int) : Int × Int := if nameOk nm = false then (0, 2) else if grp s nm = 0 then (0, 9) else (grp s nm, 0)
theorem groupR_hcx (K : Kn) (s : GS) (hs : GOk s) (l : List Int) (hk : KeysOf s.h l) (hl : l.length < 129) (vL : Value) (V : Nat → Value) (hR : ROK K s l vL V) (nm : Int) (h0 : 0 ≤ nm ∧ nm ≤ 4294967295) :
    HCX Try.prog K M0 45 [RG vL s.now, u32 nm] [] [] 0 (fun (_ : Unit) K' => K' = K) (fun _ => ⟨.tup [i64 (grO s nm).1, i64 (grO s nm).2], [], 0⟩) := by
  have hF := findR_hck K s hs l hk hl vL V hR nm
  refine hcx_of_run Try.func45 rfl (fun B hB hK hpin => ?_)
  have hF0 : Fz B K M0 B K := .refl hB hK
  unfold grO
  refine goN hB rfl rfl (by simp [conj]; omega) ?_
  by_cases hq : nameOk nm = false
  · rw [if_pos hq]
    refine run_tt (by simpa using hq) ?_
    refine goN hB rfl rfl (by first | exact conj_nil | simp [conj]) ?_
    exact run_retF hF0 hpin () rfl [] rfl rfl (by first | exact conj_nil | simp [conj]) rfl (by first | exact conj_nil | simp [conj])
  · rw [if_neg hq]
    refine run_ff (by simpa using hq) ?_
    refine goN hB rfl rfl (by first | exact conj_nil | simp [conj]) ?_
    refine run_callX (hcx_of_hck (M := M0) hF) named hB hK (fun _ h => h.elim) (.inr fun _ h => h) [] rfl rfl rfl rfl (by first | exact conj_nil | simp [conj]) (by first | exact conj_nil | simp [conj]) ?_
    rintro ⟨⟩ B2 K2 ⟨_, rfl⟩ hF2 hp2
    have hB2 := hF2.ok
    refine ⟨show 0 ≤ 0 by omega, _, _, _, rfl, rfl, rfl, ?_⟩
    generalize grp s nm = r
    refine goN hB2 rfl rfl (by first | exact conj_nil | simp [conj]) ?_
    by_cases hr : r = 0
    · rw [if_pos hr]
      refine run_tt (by simpa using hr) ?_
      refine goN hB2 rfl rfl (by first | exact conj_nil | simp [conj]) ?_
      exact run_retF hF2 (hpin.fz hF2 hp2) () rfl [] rfl rfl (by first | exact conj_nil | simp [conj]) rfl (by first | exact conj_nil | simp [conj])
    · rw [if_neg hr]
      refine run_ff (by simpa using hr) ?_
      refine goN hB2 rfl rfl (by first | exact conj_nil | simp [conj]) ?_
      exact run_retF hF2 (hpin.fz hF2 hp2) () rfl [] rfl rfl (by first | exact conj_nil | simp [conj]) rfl (by first | exact conj_nil | simp [conj])
end Sx
