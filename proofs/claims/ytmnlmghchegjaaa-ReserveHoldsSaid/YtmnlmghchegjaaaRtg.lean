/- What ReserveCodes computes: true. Conditions: as each theorem says. -/
import Derived.Test.YtmnlmghchegjaaaRte
import Derived.Test.YtmnlmghchegjaaaRsn
import Derived.Test.YtmnlmghchegjaaaRe
set_option linter.unusedSimpArgs false
set_option linter.unusedVariables false
namespace Sx
open Go Go.Proofs Classical
set_option maxRecDepth 100000
set_option pp.deepTerms true
set_option pp.maxSteps 10000000
def modeC : Mode := { st := true, unr := false, inl := fun f => !hasN f [8, 26, 27, 28, 29, 57, 58, 23], sum := sumOf sW, keep := fun _ => none }
theorem goC {B : Base} (hB : B.ok) {ro : Hp} {f : FuncId} {R : Ending → World → Prop} {cs0 cs : List Prop} {c c0 c' : Cfg} (h0 : stepD Try.prog modeC ro c = some (cs0, c0)) (h : execG Try.prog modeC ro 400 cs0 c0 = (cs, c')) (hc : conj cs)
    (hr : Run Try.prog ro B f R c') : Run Try.prog ro B f R c := run_go mixed named hB sW_ok 400 h0 h hc hr
theorem num0_hc : HC Try.prog 20 [i64 0] [] [] 0 (fun _ : Unit => True) (fun _ => ⟨i64 0, [], 0⟩) := by
  refine hc_of_run Try.func20 rfl (fun B hB hpin => ?_)
  refine goC hB rfl rfl (by simp [conj]) ?_
  exact run_retC hpin () trivial [] rfl rfl (by simp [conj]) rfl (by simp [conj])
def rcNum0 : RC := ⟨20, [i64 0], [], [], 0, i64 0, [], 0, []⟩
theorem rcNum0_ok : RcOk Try.prog rcNum0 := ⟨num0_hc, rfl, Nat.le_refl _⟩
theorem decO_len {g : Nat → Int} (hg : Bytes8 g) {m : Nat} (hm : m < 1000000) : (decO g m).R.length < 1000000 := by
  have := (nD_lt hg).2
  unfold decO
  repeat' split
  all_goals simp [RD_len]
  omega
theorem codes_hc (G T : Int) (p : Bool) (R : List Reg) (hG : 0 ≤ G ∧ G < 4294967296) (hT : Fits .i64 T)
    (hk : ∀ i, i < R.length → 0 ≤ (regD R i).1 ∧ (regD R i).1 < 18446744073709551616 ∧ 0 ≤ (regD R i).2.1 ∧ (regD R i).2.1 < 18446744073709551616)
    (g : Nat → Int) (hg : Bytes8 g) (m o1 o2 : Nat) :
    HC Try.prog 5 [rep G T p 0 R.length .no o1, .sq 1 o2 0 1 m .no] [] [(1, .row o2 m m 1 (byt g) anyTy), (0, .row o1 R.length R.length 3 (regR R) anyTy)] 2 (fun _ : Unit => True) (fun _ => ⟨.tt, [], 2⟩) := by
  refine hc_of_run Try.func5 rfl (fun B hB hpin => ?_)
  refine goC hB rfl rfl (by simp [conj]) ?_
  refine run_cond rfl (fun h => ?_) (fun h => ?_)
  · refine goC hB rfl rfl (by simp [conj]) ?_
    refine run_retC hpin () trivial [0, 1] rfl rfl (by simp [conj]) rfl ?_
    simp [conj, less_rfl, ren_byt, ren_regR]
  have hl : R.length ≤ 130 ∧ m ≤ 4000 := by
    simp at h
    omega
  obtain ⟨hl1, hl2⟩ := hl
  have hRok : ROk G T R := ⟨hG.1, hG.2, by omega, hk⟩
  refine goC hB rfl rfl (by simp [conj]) ?_
  refine run_callC (validG_hc G T p R (by omega) hT R.length o1) named hB [0] rfl rfl rfl rfl (by simp [conj]) (by simp [conj, less_rfl, ren_regR]) ?_
  rintro ⟨⟩ _
  refine ⟨show 1 ≤ 1 by omega, _, _, _, rfl, rfl, rfl, ?_⟩
  by_cases hv : VOk T R
  · refine run_tt (by simpa using hv) ?_
    refine goC hB rfl rfl (by simp [conj]) ?_
    refine run_callC (encode_hc G T p R hRok R.length o1) named hB [0] rfl rfl rfl rfl (by simp [conj]) (by simp [conj, less_rfl, ren_regR]) ?_
    rintro ⟨⟩ _
    refine ⟨show 1 ≤ 2 by omega, _, _, _, rfl, rfl, rfl, ?_⟩
    refine goC hB rfl rfl (by simp [conj]) ?_
    refine run_callC (decodeG_hc g hg m m (by omega) o2) named hB [1] rfl rfl rfl rfl (by simp [conj]) (by simp [conj, less_rfl, ren_byt]) ?_
    rintro ⟨⟩ _
    refine ⟨show 1 ≤ 2 by omega, _, _, _, rfl, rfl, rfl, ?_⟩
    refine goC hB rfl rfl (by simp [conj]) ?_
    refine run_callC (decodeR_hc g hg m m (by omega) o2) named hB [1] rfl rfl rfl rfl (by simp [conj]) (by simp [conj, less_rfl, ren_byt]) ?_
    rintro ⟨⟩ _
    refine ⟨show 1 ≤ 2 by omega, _, _, _, rfl, rfl, rfl, ?_⟩
    refine goC hB rfl rfl (by simp [conj]) ?_
    refine run_callC (sameN_hc (decO g m).G (decO g m).T (decO g m).p (decO g m).R (decO g m).R.length (decO g m).R.length (decO g m).R.length (decO_len hg (by omega))) named hB [5, 7] rfl rfl rfl rfl (by simp [conj]) (by simp [conj, less_rfl, ren_regR, renR_regR]) ?_
    rintro ⟨⟩ _
    refine ⟨show 2 ≤ 2 by omega, _, _, _, rfl, rfl, rfl, ?_⟩
    refine goC hB rfl rfl (by simp [conj]) ?_
    refine run_condF rfl (by simp) ?_
    refine goC hB rfl rfl (by simp [conj]) ?_
    refine run_callC (validR_hc G T p R (by omega) hT (fun i hi => (hk i hi).1) R.length o1) named hB [0] rfl rfl rfl rfl (by simp [conj]) (by simp [conj, less_rfl, ren_regR]) ?_
    rintro ⟨⟩ _
    refine ⟨show 1 ≤ 1 by omega, _, _, _, rfl, rfl, rfl, ?_⟩
    refine run_tt (by simpa using hv) ?_
    refine goC hB rfl rfl (by simp [conj]) ?_
    refine run_draw0 mixed (fun t => ?_)
    by_cases hz : R.length = 0
    · have hRe : R = [] := List.eq_nil_of_length_eq_zero hz
      subst hRe
      have hse := str_eq (f := encI G T p []) (g := encI G T p []) 24 (fun i _ => encI_lt _ _ _ _ i) (fun i _ => encI_lt _ _ _ _ i)
      have hE0 := bytes0_hc G T p 0 hG.1 hG.2
      refine run_drawC (M := modeC) 1 15 rfl named hB sW_ok [(10, rcNum0), (16, rcByt0 G T p 0)] ⟨rcNum0_ok, ⟨hE0, rfl, by show 0 ≤ 1; omega⟩, trivial⟩ rfl rfl rfl rfl rfl rfl ?_ (fun t => ?_)
      · simp [conj, less_rfl, SO.Live, ren_byt, ren_regR, renR_byt]
        repeat' apply And.intro
        all_goals first | omega | (intro a _; exact ⟨_, rfl⟩) | exact .inl (by omega)
      refine run_drawE rfl ?_
      simp only [renR_byt]
      refine goC hB rfl rfl (by simp [conj]) ?_
      refine run_retC hpin () trivial [0, 1] rfl rfl (by simp [conj, hse]) rfl ?_
      simp [conj, less_rfl, ren_byt, ren_regR, hse]
    · have hse := str_eq (f := encI G T p R) (g := encI G T p R) (24 * (1 + R.length)) (fun i _ => encI_lt _ _ _ _ i) (fun i _ => encI_lt _ _ _ _ i)
      have hE0 := bytes_hc G T p R hRok R.length o1
      refine run_drawC (M := modeC) 1 15 rfl named hB sW_ok [(10, rcNum0), (16, rcByt G T p R R.length R.length 0 o1)] ⟨rcNum0_ok, ⟨hE0, rfl, by show 1 ≤ 2; omega⟩, trivial⟩ rfl rfl rfl rfl rfl rfl ?_ (fun t => ?_)
      · simp [conj, less_rfl, SO.Live, ren_byt, ren_regR, renR_byt]
        repeat' apply And.intro
        all_goals first | omega | (intro a _; exact ⟨_, rfl⟩) | exact .inl (by omega)
      refine run_drawE rfl ?_
      simp only [renR_byt]
      refine goC hB rfl rfl (by simp [conj]) ?_
      refine run_retC hpin () trivial [0, 1] rfl rfl (by simp [conj, hse]) rfl ?_
      simp [conj, less_rfl, ren_byt, ren_regR, hse]
  · refine run_ff (by simpa using hv) ?_
    refine goC hB rfl rfl (by simp [conj]) ?_
    refine run_callC (decodeG_hc g hg m m (by omega) o2) named hB [1] rfl rfl rfl rfl (by simp [conj]) (by simp [conj, less_rfl, ren_byt]) ?_
    rintro ⟨⟩ _
    refine ⟨show 1 ≤ 2 by omega, _, _, _, rfl, rfl, rfl, ?_⟩
    refine goC hB rfl rfl (by simp [conj]) ?_
    refine run_callC (decodeR_hc g hg m m (by omega) o2) named hB [1] rfl rfl rfl rfl (by simp [conj]) (by simp [conj, less_rfl, ren_byt]) ?_
    rintro ⟨⟩ _
    refine ⟨show 1 ≤ 2 by omega, _, _, _, rfl, rfl, rfl, ?_⟩
    refine goC hB rfl rfl (by simp [conj]) ?_
    refine run_callC (sameN_hc (decO g m).G (decO g m).T (decO g m).p (decO g m).R (decO g m).R.length (decO g m).R.length (decO g m).R.length (decO_len hg (by omega))) named hB [4, 6] rfl rfl rfl rfl (by simp [conj]) (by simp [conj, less_rfl, ren_regR, renR_regR]) ?_
    rintro ⟨⟩ _
    refine ⟨show 2 ≤ 2 by omega, _, _, _, rfl, rfl, rfl, ?_⟩
    refine goC hB rfl rfl (by simp [conj]) ?_
    refine run_condF rfl (by simp) ?_
    refine goC hB rfl rfl (by simp [conj]) ?_
    refine run_callC (validR_hc G T p R (by omega) hT (fun i hi => (hk i hi).1) R.length o1) named hB [0] rfl rfl rfl rfl (by simp [conj]) (by simp [conj, less_rfl, ren_regR]) ?_
    rintro ⟨⟩ _
    refine ⟨show 1 ≤ 1 by omega, _, _, _, rfl, rfl, rfl, ?_⟩
    refine run_ff (by simpa using hv) ?_
    refine goC hB rfl rfl (by simp [conj]) ?_
    refine run_retC hpin () trivial [0, 1] rfl rfl (by simp [conj]) rfl ?_
    simp [conj, less_rfl, ren_byt, ren_regR]
end Sx
