/- The law's says. Conditions: as each theorem says. -/
import Derived.Test.YtdjckiilfplnfaaJn
import Derived.Test.YtdjckiilfplnfaaJxi
import Derived.Test.YtdjckiilfplnfaaJxe
import Derived.Test.YtdjckiilfplnfaaJsc
set_option linter.unusedSimpArgs false
set_option linter.unusedVariables false
namespace Sx
open Go Go.Proofs
set_option maxRecDepth 100000
set_option pp.deepTerms true
set_option pp.maxSteps 10000000
theorem sorted_unique {N : Nat} : ∀ (Y Z : List (List Int)), Y.Pairwise (ltV N) → Z.Pairwise (ltV N) → (∀ v, v ∈ Y ↔ v ∈ Z) → Y = Z
  | [], [], _, _, _ => rfl
  | [], z :: Z, _, _, h => absurd ((h z).2 (List.mem_cons_self ..)) (List.not_mem_nil)
  | y :: Y, [], _, _, h => absurd ((h y).1 (List.mem_cons_self ..)) (List.not_mem_nil)
  | y :: Y, z :: Z, hY, hZ, h => by
    rw [List.pairwise_cons] at hY hZ
    have hyz : y = z := by
      rcases List.mem_cons.1 ((h y).1 (List.mem_cons_self ..)) with e | e
      · exact e
      · rcases List.mem_cons.1 ((h z).2 (List.mem_cons_self ..)) with e2 | e2
        · exact e2.symm
        · exact absurd (ltV_trans (hY.1 z e2) (hZ.1 y e)) ltV_irr
    subst hyz
    have : Y = Z := sorted_unique Y Z hY.2 hZ.2 fun v => by
      constructor
      · intro q
        rcases List.mem_cons.1 ((h v).1 (List.mem_cons_of_mem _ q)) with e | e
        · subst e; exact absurd (hY.1 v q) ltV_irr
        · exact e
      · intro q
        rcases List.mem_cons.1 ((h v).2 (List.mem_cons_of_mem _ q)) with e | e
        · subst e; exact absurd (hZ.1 v q) ltV_irr
        · exact e
    rw [this]
theorem fins_unique {H : Hi} {u : Int} {Y Z : List (List Int)} (h : FinS H u Y) (g : FinS H u Z) : Y = Z := sorted_unique Y Z h.1 g.1 fun v => (h.2 v).trans (g.2 v).symm
set_option maxHeartbeats 4000000 in
theorem says_hcx {K : Kn} {H : Hi} {vo vc : Value} {V : Nat → Value} (h : HOK K H vo vc V) (hu : H.unit = 2) (hb : H.blocks = 4) (hv : VHi H) (hnc24 : H.nc ≤ 24) (hlong : ∀ u, u < 2 → ∀ e, e ≤ H.nc → lenE H (u : Nat) e ≤ 12) (hvf : ∀ i, i < H.m → ∀ k, k < (H.op i).n → Fits .i64 ((H.op i).v k)) (hpw : (H.m + 1) ^ H.unit.toNat ≤ 1000000000000)
    (is : Bool) (hex : ∀ b k, EX H (nU H) b k → b = is ∧ k = 0) (want : Value) (Y : List (List Int)) (WW : Nat → Value) (hw : VLs K 2 (want, Y, WW)) (hY : FinS H (0 : Nat) Y) (hYl : Y.length ≤ 1000) :
    HCX Try.prog K M0 24 [.val vc, .sb is, .val want, .val vo] [] [] 0 (fun (_ : Unit) _ => True) (fun _ => ⟨.tt, [], 0⟩) := by
  refine hcx_of_run Try.func24 rfl (fun B hB hK hpin => ?_)
  have hF0 : Fz B K M0 B K := .refl hB hK
  have hnU : nU H = 2 := by unfold nU; rw [hu, hb]; rfl
  refine goT hB [] 400 rfl (by first | exact conj_nil | simp [conj]) ?_
  have hagg : hA H vo vc = .agg [i64 2, i64 4, .val vo, .val vc] := by unfold hA; rw [hu, hb]
  refine run_callX (finals13_hcx sortLaw sortNone h hv hnc24 0 (by omega) (hlong 0 (by omega)) hvf hpw) named hB hK (fun _ h => h.elim) (.inr fun _ h => h) [] rfl rfl rfl rfl (by first | exact conj_nil | simp [conj]) (by simp [conj, less_rfl, hu, hb]) ?_
  rintro ⟨yv, Y2, W2⟩ B1 K1 ⟨hz1, hz2⟩ hF1 hp1
  dsimp only at hz1 hz2
  have hYY : Y2 = Y := fins_unique hz2 hY
  subst hYY
  have hpin1 := hpin.fz hF1 hp1
  refine ⟨show 0 ≤ 0 by omega, _, _, _, rfl, rfl, rfl, ?_⟩
  refine goT hF1.ok [] 400 rfl (by first | exact conj_nil | simp [conj]) ?_
  have hKB : ∀ b o, K b = some o → B1.D b = some o := fun b o q => hF1.le b o (hF1.old b o q (fun h => h))
  refine run_callCK (explained_hck h hv hnc24 hvf) named hF1.ok hKB [] rfl rfl rfl rfl (by first | exact conj_nil | simp [conj]) (by simp [conj, less_rfl, hu, hb]) ?_
  rintro (_ | ⟨b, k⟩) hz
  · obtain ⟨u, e, q1, q2, q3⟩ := hz
    have := hlong u (by omega) e q2
    omega
  · obtain ⟨_, hz⟩ := hz
    obtain ⟨rfl, rfl⟩ := hex b k hz
    refine ⟨show 0 ≤ 0 by omega, _, _, _, rfl, rfl, rfl, ?_⟩
    cases b with
    | true =>
      refine goT hF1.ok [(24, 26)] 400 rfl (by first | exact conj_nil | simp [conj]) ?_
      refine run_tt rfl ?_
      refine goT hF1.ok [] 400 rfl (by first | exact conj_nil | simp [conj]) ?_
      refine run_callCK (sameE_hck yv want W2 WW Y2 2 (by omega) (by omega) (by rw [hu] at hz1; exact hz1) ⟨hw.1.fz hF1, fun i hi => (hw.2 i hi).fz hF1⟩ (by omega)) named hF1.ok hF1.le [] rfl rfl rfl rfl (by first | exact conj_nil | simp [conj]) (by simp [conj, less_rfl]) ?_
      rintro ⟨⟩ _
      refine ⟨show 0 ≤ 0 by omega, _, _, _, rfl, rfl, rfl, ?_⟩
      refine goT hF1.ok [(24, 37), (24, 38)] 400 rfl (by first | exact conj_nil | simp [conj]) ?_
      refine run_tt rfl ?_
      refine goT hF1.ok [] 400 rfl (by simp [conj, isBo4]) ?_
      refine run_retF hF1 hpin1 () trivial [] rfl rfl (by first | exact conj_nil | simp [conj]) rfl ?_
      simp [conj, less_rfl]
    | false =>
      refine goT hF1.ok [(24, 26)] 400 rfl (by first | exact conj_nil | simp [conj]) ?_
      refine run_ff rfl ?_
      refine goT hF1.ok [] 400 rfl (by first | exact conj_nil | simp [conj]) ?_
      refine run_callCK (sameE_hck yv want W2 WW Y2 2 (by omega) (by omega) (by rw [hu] at hz1; exact hz1) ⟨hw.1.fz hF1, fun i hi => (hw.2 i hi).fz hF1⟩ (by omega)) named hF1.ok hF1.le [] rfl rfl rfl rfl (by first | exact conj_nil | simp [conj]) (by simp [conj, less_rfl]) ?_
      rintro ⟨⟩ _
      refine ⟨show 0 ≤ 0 by omega, _, _, _, rfl, rfl, rfl, ?_⟩
      refine goT hF1.ok [(24, 37), (24, 38)] 400 rfl (by first | exact conj_nil | simp [conj]) ?_
      refine run_ff rfl ?_
      refine goT hF1.ok [] 400 rfl (by simp [conj, isBo4]) ?_
      refine run_retF hF1 hpin1 () trivial [] rfl rfl (by first | exact conj_nil | simp [conj]) rfl ?_
      simp [conj, less_rfl]
theorem says_hck {K : Kn} {H : Hi} {vo vc : Value} {V : Nat → Value} (h : HOK K H vo vc V) (hu : H.unit = 2) (hb : H.blocks = 4) (hv : VHi H) (hnc24 : H.nc ≤ 24) (hlong : ∀ u, u < 2 → ∀ e, e ≤ H.nc → lenE H (u : Nat) e ≤ 12) (hvf : ∀ i, i < H.m → ∀ k, k < (H.op i).n → Fits .i64 ((H.op i).v k)) (hpw : (H.m + 1) ^ H.unit.toNat ≤ 1000000000000)
    (is : Bool) (hex : ∀ b k, EX H (nU H) b k → b = is ∧ k = 0) (want : Value) (Y : List (List Int)) (WW : Nat → Value) (hw : VLs K 2 (want, Y, WW)) (hY : FinS H (0 : Nat) Y) (hYl : Y.length ≤ 1000) :
    HCK Try.prog K 24 [.val vc, .sb is, .val want, .val vo] [] [] 0 (fun (_ : Unit) => True) (fun _ => ⟨.tt, [], 0⟩) := hck_of_hcx (says_hcx h hu hb hv hnc24 hlong hvf hpw is hex want Y WW hw hY hYl)
end Sx
