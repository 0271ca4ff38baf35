/- The law's act: where nothing is placed, dropped or deleted. Conditions: as each theorem says. -/
import Derived.Test.YtcfifbpkngplmaaXag
set_option linter.unusedSimpArgs false
set_option linter.unusedVariables false
namespace Sx
open Go Go.Proofs
set_option maxRecDepth 100000
set_option pp.deepTerms true
set_option pp.maxSteps 10000000
theorem num_hc (c : Int) : HC Try.prog 10 [i64 c] [] [] 0 (fun _ : Unit => True) (fun _ => ⟨i64 c, [], 0⟩) := by
  refine hc_of_run Try.func10 rfl (fun B hB hpin => ?_)
  refine goJ hB rfl rfl (by first | exact conj_nil | simp [conj]) ?_
  refine run_retC hpin () trivial [] rfl rfl (by first | exact conj_nil | simp [conj]) rfl ?_
  simp [conj, less_rfl]
def rcNum (c : Int) : RC := ⟨10, [i64 c], [], [], 0, i64 c, [], 0, []⟩
theorem rcNum_ok {kn : Kn} (c : Int) : RcOkK Try.prog kn (rcNum c) := ⟨hck_of_hc (num_hc c), rfl, Nat.le_refl _⟩
structure St where
  s : XSt
  z : XZ
  l : List Int
  v : Value
  W : Nat → Value
def ActA (J K : Kn) (s : XSt) (l : List Int) (y : St) (K' : Kn) : Prop := ∃ J', Ev J K J' K' ∧ AInv J' K' y.s y.z y.l y.v y.W ∧ y.s.un = s.un ∧ y.s.tot = s.tot ∧ y.l.length ≤ l.length + 1
abbrev actOut (y : St) : Out := ⟨.tup [.ptr 2 0, rG y.s.un y.s.tot y.v, .tt], [(2, xC y.z.vF y.s.nx y.s.tot y.s.un 3), (3, amap y.s.h y.s.sz y.z.V)], 4⟩
abbrev acts (w id q c : Int) : SV := .agg [i64 w, i64 id, i64 q, i64 c]
theorem AInv.froz {J K : Kn} {s : XSt} {z : XZ} {l : List Int} {v : Value} {W : Nat → Value} (h : AInv J K s z l v W) (a : Int) (ha : s.h a = true) : Froz K (z.V a) (s.n a) 1 (urow (s.u a)) := (h.x.rows a ha (fun q => q)).froz
theorem act_same {J K : Kn} {s : XSt} {z : XZ} {l : List Int} {v : Value} {W : Nat → Value} (h : AInv J K s z l v W) : ActA J K s l ⟨s, z, l, v, W⟩ K := ⟨J, Ev.refl h.jk, h, rfl, rfl, by show l.length ≤ l.length + 1; omega⟩
theorem act_create_no {J K : Kn} {s : XSt} {z : XZ} {l : List Int} {v : Value} {W : Nat → Value} (h : AInv J K s z l v W) (hl : l.length < 100000) (id q c no : Int) (h1 : CrS (rsOf s l) s.un s.tot id c no) (h2 : no ≠ 0) (h3 : HC Try.prog 11 [.ptr 0 0, i64 id, i64 c] (hpX s z) [] 2 (fun _ : Unit => True) (fun _ => ⟨i64 no, hpX s z, 2⟩)) :
    HCX Try.prog K M0 24 [.ptr 0 0, rG s.un s.tot v, acts 0 id q c] (hpX s z) [] 2 (ActA J K s l) actOut := by
  have ut : s.un * s.tot ≤ 16777216 := by have := h.p.ut; omega
  refine hcx_of_run Try.func24 rfl (fun B hB hK hpin => ?_)
  have hF0 : Fz B K M0 B K := .refl hB hK
  refine goJT hB [(24, 31)] 400 rfl (by first | exact conj_nil | simp [conj]) ?_
  refine run_tt (by simp) ?_
  refine goJ hB rfl rfl (by first | exact conj_nil | simp [conj]) ?_
  refine run_callCK (createR_no J (rsOf s l) v W h.r.g hl s.un s.tot h.p.ut0 ut id c no h1) named hB (fun b o e => hK b o (h.jk b o e)) [] rfl rfl rfl rfl (by first | exact conj_nil | simp [conj]) (by simp [conj, less_rfl]) ?_
  rintro ⟨⟩ _
  refine ⟨show 0 ≤ 0 by omega, _, _, _, rfl, rfl, rfl, ?_⟩
  refine goJ hB rfl rfl (by first | exact conj_nil | simp [conj]) ?_
  refine run_draw0 mixed (fun t => ?_)
  refine run_drawK (M := modeJ) (kn := K) hK 1 14 rfl named hB (sumOk_nil _) [(13, ⟨11, [.ptr 0 0, i64 id, i64 c], hpX s z, [], 2, i64 no, hpX s z, 2, [0, 1]⟩), (14, rcNum no)] ⟨⟨hck_of_hc h3, rfl, Nat.le_refl _⟩, rcNum_ok no, trivial⟩ rfl rfl rfl rfl rfl rfl (by simp [conj, less_rfl, SO.Live]) (fun t => ?_)
  refine run_drawE rfl ?_
  refine goJ hB rfl rfl (by first | exact conj_nil | simp [conj]) ?_
  refine run_retF hF0 hpin ⟨s, z, l, v, W⟩ (act_same h) [0, 1, 0, 1] rfl rfl (by first | exact conj_nil | simp [conj]) rfl ?_
  simp [conj, less_rfl]
theorem act_delete_no {J K : Kn} {s : XSt} {z : XZ} {l : List Int} {v : Value} {W : Nat → Value} (h : AInv J K s z l v W) (hl : l.length < 100000) (id q c i no : Int) (h1 : KnS (rsOf s l) id i no) (h2 : no ≠ 0) (h3 : HC Try.prog 16 [.ptr 0 0, i64 id] (hpX s z) [] 2 (fun _ : Unit => True) (fun _ => ⟨.tup [.nilsl, i64 no], hpX s z, 2⟩)) :
    HCX Try.prog K M0 24 [.ptr 0 0, rG s.un s.tot v, acts 1 id q c] (hpX s z) [] 2 (ActA J K s l) actOut := by
  refine hcx_of_run Try.func24 rfl (fun B hB hK hpin => ?_)
  have hF0 : Fz B K M0 B K := .refl hB hK
  refine goJT hB [(24, 31)] 400 rfl (by first | exact conj_nil | simp [conj]) ?_
  refine run_ff (by simp) ?_
  refine goJT hB [(24, 53)] 400 rfl (by first | exact conj_nil | simp [conj]) ?_
  refine run_tt (by simp) ?_
  refine goJ hB rfl rfl (by first | exact conj_nil | simp [conj]) ?_
  refine run_callCK (deleteR_no J (rsOf s l) v W h.r.g hl s.un s.tot id i no h1 h2) named hB (fun b o e => hK b o (h.jk b o e)) [] rfl rfl rfl rfl (by first | exact conj_nil | simp [conj]) (by simp [conj, less_rfl]) ?_
  rintro ⟨⟩ _
  refine ⟨show 0 ≤ 0 by omega, _, _, _, rfl, rfl, rfl, ?_⟩
  refine goJ hB rfl rfl (by first | exact conj_nil | simp [conj]) ?_
  refine run_callC h3 named hB [0, 1] rfl rfl rfl rfl (by first | exact conj_nil | simp [conj]) (by simp [conj, less_rfl]) ?_
  rintro ⟨⟩ _
  refine ⟨show 2 ≤ 2 by omega, _, _, _, rfl, rfl, rfl, ?_⟩
  refine goJ hB rfl rfl (by first | exact conj_nil | simp [conj]) ?_
  trace_state
  refine run_draw0 mixed (fun t => ?_)
  refine run_drawK (M := modeJ) (kn := K) hK 1 14 rfl named hB (sumOk_nil _) [(10, ⟨30, [.nilsl, .nilsl], [], [], 0, .tt, [], 0, []⟩), (13, rcNum no)] ⟨⟨same0_hck K, rfl, Nat.le_refl _⟩, rcNum_ok no, trivial⟩ rfl rfl rfl rfl rfl rfl (by simp [conj, less_rfl, SO.Live]) (fun t => ?_)
  refine run_drawE rfl ?_
  refine goJ hB rfl rfl (by first | exact conj_nil | simp [conj]) ?_
  refine run_retF hF0 hpin ⟨s, z, l, v, W⟩ (act_same h) [0, 1, 0, 1] rfl rfl (by first | exact conj_nil | simp [conj]) rfl ?_
  simp [conj, less_rfl]
end Sx
