/- Package judge: Explained. Conditions: as each theorem says. -/
import Derived.Test.YtdjckiilfplnfaaJm
set_option linter.unusedSimpArgs false
set_option linter.unusedVariables false
namespace Sx
open Go Go.Proofs
set_option maxRecDepth 100000
set_option pp.deepTerms true
set_option pp.maxSteps 10000000
/-- How many units a history has. -/
def nU (H : Hi) : Nat := (H.blocks / H.unit).toNat
/-- Whether a unit has a possible value in the end. -/
def SomeF (H : Hi) (u : Nat) : Prop := ∃ v, FS H u (H.nc + 1) v
def EX (H : Hi) (n : Nat) (b : Bool) (k : Int) : Prop := (b = true ∧ k = 0 ∧ ∀ u, u < n → SomeF H u) ∨ (b = false ∧ ∃ k' : Nat, k = k' ∧ k' < n ∧ ¬ SomeF H k' ∧ ∀ u, u < k' → SomeF H u)
def EXI (H : Hi) (z : Option (Bool × Int)) : Prop := match z with
  | none => ∃ u e, u < nU H ∧ e ≤ H.nc ∧ 12 < lenE H (u : Nat) e
  | some (b, k) => (∀ u e, u < nU H → e ≤ H.nc → lenE H (u : Nat) e ≤ 12) ∧ EX H (nU H) b k
def outE : Option (Bool × Int) → Out
  | none => ⟨.tup [.ff, i64 0, i64 5], [], 0⟩
  | some (b, k) => ⟨.tup [.sb b, i64 k, i64 0], [], 0⟩
theorem units_mul {H : Hi} (hv : VHi H) : (nU H : Int) * H.unit = H.blocks := by
  have h1 := hv.u1
  have h2 := hv.b1
  have h3 := Int.mul_ediv_add_emod H.blocks H.unit
  rw [hv.mod, Int.add_zero] at h3
  unfold nU
  rw [Int.toNat_of_nonneg (Int.ediv_nonneg (by omega) (by omega)), Int.mul_comm]
  exact h3
set_option maxHeartbeats 4000000 in
theorem explained_hck {K : Kn} {H : Hi} {vo vc : Value} {V : Nat → Value} (h : HOK K H vo vc V) (hv : VHi H) (hnc24 : H.nc ≤ 24) (hvf : ∀ i, i < H.m → ∀ k, k < (H.op i).n → Fits .i64 ((H.op i).v k)) :
    HCK Try.prog K 17 [hA H vo vc] [] [] 0 (EXI H) outE := by
  have h1 := hv.u1
  have h2 := hv.b1
  have h3 := hv.b2
  have hum := units_mul hv
  have hdiv : H.blocks / H.unit = (nU H : Int) := by
    unfold nU
    rw [Int.toNat_of_nonneg (Int.ediv_nonneg (by omega) (by omega))]
  have hnU : (nU H : Int) ≤ 4096 := by
    have := Int.mul_le_mul_of_nonneg_left h1 (Int.natCast_nonneg (nU H))
    omega
  refine hck_of_run Try.func17 rfl (fun B hB hK hpin => ?_)
  refine goT hB [] 400 rfl (by first | exact conj_nil | simp [conj]) ?_
  refine run_callCK (valid_hck h true (by simp [hv])) named hB hK [] rfl rfl rfl rfl (by first | exact conj_nil | simp [conj]) (by simp [conj, less_rfl]) ?_
  rintro ⟨⟩ _
  refine ⟨show 0 ≤ 0 by omega, _, _, _, rfl, rfl, rfl, ?_⟩
  refine goT hB [] 400 rfl (by simp [conj, Fits_i64]; omega) ?_
  refine run_loop ?_
  refine run_inv (ι := Nat × Bool × Int) hpin (fun x => x.1 ≤ nU H ∧ (∀ u e, u < x.1 → e ≤ H.nc → lenE H (u : Nat) e ≤ 12) ∧ EX H x.1 x.2.1 x.2.2) (fun x => nU H - x.1)
    (fun x => [(18, i64 x.1), (17, i64 (nU H)), (1, .ptr 0 0), (5, .sb x.2.1), (6, i64 x.2.2)]) (fun _ => []) (fun _ => [(0, hC H vo vc)]) 1 (0, true, 0) ⟨Nat.zero_le _, fun u e hu => absurd hu (Nat.not_lt_zero _), .inl ⟨rfl, rfl, fun u hu => absurd hu (Nat.not_lt_zero _)⟩⟩ [0] rfl rfl (by simp [conj, less_rfl, hdiv]) ?_
  rintro ⟨i, b, k⟩ ⟨hi, hlen, hEX⟩ ih
  dsimp only at hi hlen hEX ih ⊢
  refine goT hB [(17, 19)] 400 rfl (by clear ih; first | exact conj_nil | simp [conj]) ?_
  by_cases hin : i < nU H
  · refine run_tt (by clear ih; simp; omega) ?_
    refine goT hB [] 400 rfl (by clear ih; first | exact conj_nil | simp [conj]) ?_
    have hub : ((i : Int) + 1) * H.unit ≤ H.blocks := by
      rw [← hum]; exact Int.mul_le_mul_of_nonneg_right (by omega) (by omega)
    refine run_callCK (finals_hck h hv hnc24 (i : Int) (by omega) hub hvf) named hB hK [] rfl rfl rfl rfl (by first | exact conj_nil | simp [conj]) (by clear ih; simp [conj, less_rfl]) ?_
    rintro (_ | L) hz
    · clear ih
      refine ⟨show 0 ≤ 0 by omega, _, _, _, rfl, rfl, rfl, ?_⟩
      refine goT hB [] 400 rfl (by first | exact conj_nil | simp [conj]) ?_
      obtain ⟨e, he, hl⟩ := hz
      refine run_retC hpin none ⟨i, e, hin, he, hl⟩ [] rfl rfl (by first | exact conj_nil | simp [conj]) rfl ?_
      simp [conj, less_rfl]
    · refine ⟨show 0 ≤ 1 by omega, _, _, _, rfl, rfl, rfl, ?_⟩
      obtain ⟨z1, z2, z3⟩ := hz
      have hlen' : ∀ u e, u < i + 1 → e ≤ H.nc → lenE H (u : Nat) e ≤ 12 := fun u e hu he => by
        rcases Nat.lt_or_ge u i with q | q
        · exact hlen u e q he
        · rw [show u = i by omega]; exact z1 e he
      have hsome : SomeF H i ↔ L ≠ [] := by
        constructor
        · rintro ⟨v, hvv⟩ rfl
          have := (z3 v).2 hvv
          simp [lget] at this
        · intro hne
          match L, hne with
          | (v, bb) :: _, _ => exact ⟨v, (z3 v).1 (by simp [lget])⟩
      cases b with
      | false =>
        have ih := ih (i + 1, false, k) ⟨by show i + 1 ≤ nU H; omega, hlen', by
          rcases hEX with ⟨q, _⟩ | ⟨_, k', q1, q2, q3, q4⟩
          · cases q
          · exact .inr ⟨rfl, k', q1, by show k' < i + 1; omega, q3, q4⟩⟩ (by show nU H - (i + 1) < nU H - i; omega)
        dsimp only at ih
        refine goT hB [] 400 rfl (by clear ih; simp [conj, Fits_i64]; omega) ?_
        refine run_back ?_
        refine run_to hpin [0] rfl rfl ?_ ih
        clear ih
        simp [conj, less_rfl]
      | true =>
        obtain ⟨hk, hall⟩ : k = 0 ∧ ∀ u, u < i → SomeF H u := by
          rcases hEX with ⟨_, q1, q2⟩ | ⟨q, _⟩
          · exact ⟨q1, q2⟩
          · cases q
        refine goT hB [] 400 rfl (by clear ih; first | exact conj_nil | simp [conj]) ?_
        refine run_glen rfl rfl (by first | exact conj_nil | simp [conj]) rfl rfl ?_
        rw [arrM_size]
        cases L with
        | nil =>
          have ih := ih (i + 1, false, (i : Int)) ⟨by show i + 1 ≤ nU H; omega, hlen', .inr ⟨rfl, i, rfl, by show i < i + 1; omega, fun q => (hsome.1 q) rfl, hall⟩⟩ (by show nU H - (i + 1) < nU H - i; omega)
          dsimp only at ih
          refine goT hB [] 400 rfl (by clear ih; simp [conj, Fits_i64]; omega) ?_
          refine run_back ?_
          refine run_to hpin [0] rfl rfl ?_ ih
          clear ih
          simp [conj, less_rfl]
        | cons p L =>
          have ih := ih (i + 1, true, 0) ⟨by show i + 1 ≤ nU H; omega, hlen', .inl ⟨rfl, rfl, fun u hu => by
            have hu : u < i + 1 := hu
            rcases Nat.lt_or_ge u i with q | q
            · exact hall u q
            · rw [show u = i by omega]; exact hsome.2 (by simp)⟩⟩ (by show nU H - (i + 1) < nU H - i; omega)
          dsimp only at ih
          refine goT hB [(17, 34)] 400 rfl (by clear ih; first | exact conj_nil | simp [conj]) ?_
          refine run_ff (by clear ih; simp; omega) ?_
          refine goT hB [] 400 rfl (by clear ih; simp [conj, Fits_i64]; omega) ?_
          refine run_back ?_
          refine run_to hpin [0] rfl rfl ?_ ih
          clear ih
          simp [conj, less_rfl, hk]
  · clear ih
    have hie : i = nU H := by omega
    subst hie
    refine run_ff (by simp) ?_
    cases b with
    | true =>
      refine goT hB [] 400 rfl (by first | exact conj_nil | simp [conj]) ?_
      refine run_retC hpin (some (true, k)) ⟨hlen, hEX⟩ [] rfl rfl (by first | exact conj_nil | simp [conj]) rfl ?_
      simp [conj, less_rfl]
    | false =>
      refine goT hB [] 400 rfl (by first | exact conj_nil | simp [conj]) ?_
      refine run_retC hpin (some (false, k)) ⟨hlen, hEX⟩ [] rfl rfl (by first | exact conj_nil | simp [conj]) rfl ?_
      simp [conj, less_rfl]
end Sx
