/- known: the chapter's examples hold. No condition. -/
import Derived.Test.YtaeelabbppjobaaFn
set_option linter.unusedSimpArgs false
set_option linter.unusedVariables false
namespace Sx
open Go Go.Proofs
set_option maxRecDepth 100000
def HOk (x : FSt) : Prop := ∀ a, x.hs a = true → isId a = true
theorem hok_new (q : Int) : HOk (fNew q) := fun a h => by cases h
theorem hok_put {x : FSt} (h : HOk x) {id w : Int} {save : Bool} (hi : isId id = true) : HOk (x.put id w save) := by
  intro a ha
  have ha : ((save && ieq a id) || x.hs a) = true := ha
  rw [Bool.or_eq_true, Bool.and_eq_true] at ha
  rcases ha with ⟨_, ha⟩ | ha
  · rw [ieq_eq ha]; exact hi
  · exact h a ha
theorem hok_reset {x : FSt} (h : HOk x) (q : Int) : HOk (x.reset q) := h
theorem hok_set {x : FSt} (h : HOk x) (q s id v : Int) (save : Bool) : HOk (x.set q s id v save).x := by
  unfold FSt.set
  cases hi : isId id with
  | false => exact h
  | true =>
    cases (save && !savOf (idxOf id)) with
    | true => exact h
    | false => cases alw s (idxOf id) v with
      | false => exact h
      | true => exact hok_put h hi
theorem hok_act {x : FSt} (h : HOk x) (q s : Int) (a : AC) : HOk (x.act q s a) := by
  unfold FSt.act
  split
  · exact hok_set h q s a.id a.v a.sv
  · split
    · exact h
    · split
      · exact h
      · exact h
theorem kn1 (x : FSt) : x.set 4 2 2 2 false = ⟨0, 0, 2, x⟩ := by simp [FSt.set, isId, idxOf, alw]
theorem kn2 (x : FSt) : x.set 4 2 2 1 true = ⟨1, 0, 0, x.put 2 1 true⟩ := by simp [FSt.set, isId, idxOf, alw, savOf, wOf]
theorem kn3 (x : FSt) : x.set 4 2 2 0 false = ⟨0, 0, 0, x.put 2 0 false⟩ := by simp [FSt.set, isId, idxOf, alw, wOf]
theorem kw7 : w7 4 65545 = 65539 := by decide
theorem kn4 (x : FSt) : x.set 4 2 7 65545 false = ⟨65539, 0, 0, x.put 7 65539 false⟩ := by simp [FSt.set, isId, idxOf, alw, wOf, al5, kw7]
theorem kn5 (x : FSt) : x.set 4 2 7 1 true = ⟨0, 1, 13, x⟩ := by simp [FSt.set, isId, idxOf, savOf]
theorem kg1 (x : FSt) : (((x.put 2 1 true).put 2 0 false).reset 4).get 4 2 0 = ⟨1, 0, 0⟩ := by simp [FSt.get, FSt.reset, FSt.put, isId, idxOf, ieq]
theorem kg2 (x : FSt) : x.get 4 7 3 = ⟨4, 0, 0⟩ := by simp [FSt.get, isId, idxOf, savOf]
theorem kg3 (x : FSt) : x.get 4 3 0 = ⟨0, 0, 2⟩ := by simp [FSt.get, isId, idxOf]
theorem kg4 (x : FSt) : x.get 4 4 1 = ⟨343, 0, 0⟩ := by simp [FSt.get, isId, idxOf, dfl]
abbrev kx2 : FSt := ((fNew 4).put 2 1 true).put 2 0 false
abbrev kx3 : FSt := kx2.reset 4
abbrev kx4 : FSt := kx3.put 7 65539 false
theorem hkx2 : HOk kx2 := hok_put (hok_put (hok_new 4) rfl) rfl
set_option maxHeartbeats 1000000 in
theorem known_pure0 : Pure Try.prog 10 [] (.sb true) := by
  have h4 : (1 : Int) ≤ 4 ∧ (4 : Int) ≤ 65535 := by decide
  have hs2 : (1 : Int) ≤ 2 ∧ (2 : Int) ≤ 32 := by decide
  refine pure_of_run Try.func10 rfl (fun w => ?_)
  have hB := Base.all_ok w
  refine goQ hB s2_ok rfl rfl (by simp [conj]) ?_
  refine run_callC (new_ok 4 2 h4 hs2) named hB [] rfl rfl rfl rfl (by simp [conj]) (by simp [conj, less_rfl]) ?_
  rintro ⟨⟩ _
  refine ⟨show 0 ≤ 3 by omega, _, _, _, rfl, rfl, rfl, ?_⟩
  refine goQ hB s2_ok rfl rfl (by simp [conj]) ?_
  refine run_condF rfl (by decide) ?_
  refine goQ hB s2_ok rfl rfl (by simp [conj]) ?_
  have c1 := set_hc 4 2 h4 hs2 (fNew 4) (hok_new 4) 2 2 (by decide) false
  rw [kn1] at c1
  refine run_callC c1 named hB [0, 1, 2] rfl rfl rfl rfl (by simp [conj]) (by simp [conj, less_rfl]) ?_
  rintro ⟨⟩ _
  refine ⟨show 3 ≤ 3 by omega, _, _, _, rfl, rfl, rfl, ?_⟩
  refine goQ hB s2_ok rfl rfl (by simp [conj]) ?_
  have c2 := set_hc 4 2 h4 hs2 (fNew 4) (hok_new 4) 2 1 (by decide) true
  rw [kn2] at c2
  refine run_callC c2 named hB [0, 1, 2] rfl rfl rfl rfl (by simp [conj]) (by simp [conj, less_rfl]) ?_
  rintro ⟨⟩ _
  refine ⟨show 3 ≤ 3 by omega, _, _, _, rfl, rfl, rfl, ?_⟩
  refine goQ hB s2_ok rfl rfl (by simp [conj]) ?_
  have c3 := set_hc 4 2 h4 hs2 ((fNew 4).put 2 1 true) (hok_put (hok_new 4) rfl) 2 0 (by decide) false
  rw [kn3] at c3
  refine run_callC c3 named hB [0, 1, 2] rfl rfl rfl rfl (by simp [conj]) (by simp [conj, less_rfl]) ?_
  rintro ⟨⟩ _
  refine ⟨show 3 ≤ 3 by omega, _, _, _, rfl, rfl, rfl, ?_⟩
  refine goQ hB s2_ok rfl rfl (by simp [conj]) ?_
  refine run_callC (reset_hc 4 2 h4 isId kx2 (fun _ h => h) hkx2) named hB [0, 1, 2] rfl rfl rfl rfl (by simp [conj]) (by simp [conj, less_rfl]) ?_
  rintro ⟨⟩ _
  refine ⟨show 3 ≤ 3 by omega, _, _, _, rfl, rfl, rfl, ?_⟩
  refine goQ hB s2_ok rfl rfl (by simp [conj]) ?_
  have c4 := get_hc 4 2 h4 kx3 2 0
  rw [kg1] at c4
  refine run_callC c4 named hB [0, 1, 2] rfl rfl rfl rfl (by simp [conj]) (by simp [conj, less_rfl]) ?_
  rintro ⟨⟩ _
  refine ⟨show 3 ≤ 3 by omega, _, _, _, rfl, rfl, rfl, ?_⟩
  refine goQ hB s2_ok rfl rfl (by simp [conj]) ?_
  refine run_condF rfl (by decide) ?_
  refine goQ hB s2_ok rfl rfl (by simp [conj]) ?_
  have c5 := set_hc 4 2 h4 hs2 kx3 hkx2 7 65545 (by decide) false
  rw [kn4] at c5
  refine run_callC c5 named hB [0, 1, 2] rfl rfl rfl rfl (by simp [conj]) (by simp [conj, less_rfl]) ?_
  rintro ⟨⟩ _
  refine ⟨show 3 ≤ 3 by omega, _, _, _, rfl, rfl, rfl, ?_⟩
  refine goQ hB s2_ok rfl rfl (by simp [conj]) ?_
  have hk4 : HOk kx4 := hok_put (id := 7) (w := 65539) (save := false) hkx2 rfl
  have c6 := set_hc 4 2 h4 hs2 kx4 hk4 7 1 (by decide) true
  rw [kn5] at c6
  refine run_callC c6 named hB [0, 1, 2] rfl rfl rfl rfl (by simp [conj]) (by simp [conj, less_rfl]) ?_
  rintro ⟨⟩ _
  refine ⟨show 3 ≤ 3 by omega, _, _, _, rfl, rfl, rfl, ?_⟩
  refine goQ hB s2_ok rfl rfl (by simp [conj]) ?_
  have c7 := get_hc 4 2 h4 kx4 7 3
  rw [kg2] at c7
  refine run_callC c7 named hB [0, 1, 2] rfl rfl rfl rfl (by simp [conj]) (by simp [conj, less_rfl]) ?_
  rintro ⟨⟩ _
  refine ⟨show 3 ≤ 3 by omega, _, _, _, rfl, rfl, rfl, ?_⟩
  refine goQ hB s2_ok rfl rfl (by simp [conj]) ?_
  have c8 := get_hc 4 2 h4 kx4 3 0
  rw [kg3] at c8
  refine run_callC c8 named hB [0, 1, 2] rfl rfl rfl rfl (by simp [conj]) (by simp [conj, less_rfl]) ?_
  rintro ⟨⟩ _
  refine ⟨show 3 ≤ 3 by omega, _, _, _, rfl, rfl, rfl, ?_⟩
  refine goQ hB s2_ok rfl rfl (by simp [conj]) ?_
  have c9 := get_hc 4 2 h4 kx4 4 1
  rw [kg4] at c9
  refine run_callC c9 named hB [0, 1, 2] rfl rfl rfl rfl (by simp [conj]) (by simp [conj, less_rfl]) ?_
  rintro ⟨⟩ _
  refine ⟨show 3 ≤ 3 by omega, _, _, _, rfl, rfl, rfl, ?_⟩
  refine goQ hB s2_ok rfl rfl (by simp [conj]) ?_
  refine run_split 140 rfl (fun h => ?_) (fun h => absurd h (by decide))
  refine run_callC (sethost_hc 4 2 kx4 0) named hB [0, 1, 2] rfl rfl rfl rfl (by simp [conj]) (by simp [conj, less_rfl]) ?_
  rintro ⟨⟩ _
  refine ⟨show 3 ≤ 3 by omega, _, _, _, rfl, rfl, rfl, ?_⟩
  refine goQ hB s2_ok rfl rfl (by simp [conj]) ?_
  exact fin rfl conj_nil rfl (by simp)
theorem known_pure : Pure Try.prog 10 [] .tt := fun vs w h => (known_pure0 vs w h).mono fun e w' ⟨v, h1, h2, h3⟩ => ⟨v, h1, h2, h3⟩
def FKnown : List SV → Option (List Prop × SV)
  | [] => some ([], .tt)
  | _ => none
theorem FKnown_ok : PureOk Try.prog 10 FKnown := by
  intro xs cs r h hc
  unfold FKnown at h
  split at h <;> first | exact (none_ne h).elim | skip
  simp only [Option.some.injEq, Prod.mk.injEq] at h; obtain ⟨rfl, rfl⟩ := h
  exact ⟨rfl, known_pure⟩
def s3 : SumL := (10, FKnown) :: s2
theorem s3_ok : SumOk Try.prog (sumOf s3) := sumOk_cons FKnown_ok s2_ok
end Sx
