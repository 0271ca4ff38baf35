/- The chapter's examples hold. Conditions: none. -/
import Derived.Test.YtpjabkjacldgcaaVi
namespace Sx
open Go Go.Proofs
def cdL (l : List Cd) : Nat → Cd := fun i => l.getD i ⟨0, 0, 0, 0⟩
def l1 : List Cd := [⟨0, 1, 4, 6⟩, ⟨1, 2, 4, 20⟩, ⟨2, 3, 4, 50⟩]
instance (x y : Rk) : Decidable (lt x y) := by unfold lt; infer_instance
theorem cho1 {z : Int × Int} (h : choOk 3 (cdL l1) z) : z = (1, 0) := by
  rcases h with ⟨⟨i, i1, i2⟩, _⟩ | ⟨_, h, _⟩ | ⟨_, k, k1, k2, k3, h⟩
  · have : i = 0 ∨ i = 1 ∨ i = 2 := by omega
    rcases this with rfl | rfl | rfl <;> exact absurd i2 (by decide)
  · exact absurd (h 0 (by omega)) (by decide)
  · have : k = 0 ∨ k = 1 ∨ k = 2 := by omega
    rcases this with rfl | rfl | rfl
    · exact absurd (k3 1 (by omega) (by decide) (by omega)) (by decide)
    · exact h
    · exact absurd (k3 1 (by omega) (by decide) (by omega)) (by decide)
def l2 : List Cd := [⟨0, 1, 4, 6⟩, ⟨1, 2, 4, 20⟩, ⟨2, 3, 4, 50⟩, ⟨3, 0, 4, 0⟩]
theorem cho2 {z : Int × Int} (h : choOk 4 (cdL l2) z) : z = (3, 0) := by
  rcases h with ⟨⟨i, i1, i2⟩, _⟩ | ⟨_, h, _⟩ | ⟨_, k, k1, k2, k3, h⟩
  · have : i = 0 ∨ i = 1 ∨ i = 2 ∨ i = 3 := by omega
    rcases this with rfl | rfl | rfl | rfl <;> exact absurd i2 (by decide)
  · exact absurd (h 0 (by omega)) (by decide)
  · have : k = 0 ∨ k = 1 ∨ k = 2 ∨ k = 3 := by omega
    rcases this with rfl | rfl | rfl | rfl
    · exact absurd (k3 3 (by omega) (by decide) (by omega)) (by decide)
    · exact absurd (k3 3 (by omega) (by decide) (by omega)) (by decide)
    · exact absurd (k3 3 (by omega) (by decide) (by omega)) (by decide)
    · exact h
def l3 : List Cd := [⟨7, 1, 4, 6⟩, ⟨5, 1, 4, 6⟩]
theorem cho3 {z : Int × Int} (h : choOk 2 (cdL l3) z) : z = (1, 0) := by
  rcases h with ⟨⟨i, i1, i2⟩, _⟩ | ⟨_, h, _⟩ | ⟨_, k, k1, k2, k3, h⟩
  · have : i = 0 ∨ i = 1 := by omega
    rcases this with rfl | rfl <;> exact absurd i2 (by decide)
  · exact absurd (h 0 (by omega)) (by decide)
  · have : k = 0 ∨ k = 1 := by omega
    rcases this with rfl | rfl
    · exact absurd (k3 1 (by omega) (by decide) (by omega)) (by decide)
    · exact h
theorem cho0 {c : Nat → Cd} {z : Int × Int} (h : choOk 0 c z) : z = (0, 9) := by
  rcases h with ⟨⟨i, i1, _⟩, _⟩ | ⟨_, _, h⟩ | ⟨_, k, k1, _⟩
  · omega
  · exact h
  · omega
def l4 : List Cd := [⟨0, 5, 4, 1⟩]
theorem cho4 {z : Int × Int} (h : choOk 1 (cdL l4) z) : z = (0, 2) := by
  rcases h with ⟨_, h⟩ | ⟨h, _⟩ | ⟨h, _⟩
  · exact h
  · exact absurd (h 0 (by omega)) (by decide)
  · exact absurd (h 0 (by omega)) (by decide)
theorem fin_st {f : FuncId} {w : World} {n : Nat} {sl : Slots} {td : List SI} {hp : Hp} {nx : Nat} {cs : List Prop} {b : Bool} (hv : resV Try.prog f sl hp [] = some (cs, .sb b)) (hc : conj cs) (e : b = true) :
    Run Try.prog [] (Base.all w) f (Gives w .tt) ⟨⟨fid f, n, sl, .code .ret :: td⟩, [], hp, nx⟩ := by
  subst e; exact run_ret hv hc (fun _ _ _ hs hu => gives_of (v := .tt) hs hu rfl rfl)
theorem works_pure : Pure Try.prog 8 [] .tt := by
  refine pure_of_run Try.func8 rfl (fun w => ?_)
  have hB := Base.all_ok w
  refine exN hB s7_ok 300 rfl (by simp [conj]) ?_
  refine run_callC (choose_hc 0 3 (cdL l1) (by decide)) named hB [0] rfl rfl rfl rfl (by simp [conj]) (by
    show (_ ∧ _ ∧ _) ∧ _ ∧ (_ ∧ _) ∧ _ ∧ True
    refine ⟨⟨rfl, rfl, rfl⟩, rfl, ⟨by omega, by decide⟩, fun i k hi hk => ?_, trivial⟩
    rw [ren_ck]
    have hi : i = 0 ∨ i = 1 ∨ i = 2 := by omega
    have hk : k = 0 ∨ k = 1 ∨ k = 2 ∨ k = 3 := by omega
    rcases hi with rfl | rfl | rfl <;> rcases hk with rfl | rfl | rfl | rfl <;> exact ⟨_, rfl, Less.of rfl⟩) ?_
  intro z hz
  have := cho1 hz
  subst this
  refine ⟨by decide, _, _, _, rfl, rfl, rfl, ?_⟩
  refine exN hB s7_ok 300 rfl (by simp [conj]) ?_
  refine run_callC (choose_hc 0 4 (cdL l2) (by decide)) named hB [1] rfl rfl rfl rfl (by simp [conj]) (by
    show (_ ∧ _ ∧ _) ∧ _ ∧ (_ ∧ _) ∧ _ ∧ True
    refine ⟨⟨rfl, rfl, rfl⟩, rfl, ⟨by omega, by decide⟩, fun i k hi hk => ?_, trivial⟩
    rw [ren_ck]
    have hi : i = 0 ∨ i = 1 ∨ i = 2 ∨ i = 3 := by omega
    have hk : k = 0 ∨ k = 1 ∨ k = 2 ∨ k = 3 := by omega
    rcases hi with rfl | rfl | rfl | rfl <;> rcases hk with rfl | rfl | rfl | rfl <;> exact ⟨_, rfl, Less.of rfl⟩) ?_
  intro z hz
  have := cho2 hz
  subst this
  refine ⟨by decide, _, _, _, rfl, rfl, rfl, ?_⟩
  refine exN hB s7_ok 300 rfl (by simp [conj]) ?_
  refine run_callC (choose_hc 0 2 (cdL l3) (by decide)) named hB [2] rfl rfl rfl rfl (by simp [conj]) (by
    show (_ ∧ _ ∧ _) ∧ _ ∧ (_ ∧ _) ∧ _ ∧ True
    refine ⟨⟨rfl, rfl, rfl⟩, rfl, ⟨by omega, by decide⟩, fun i k hi hk => ?_, trivial⟩
    rw [ren_ck]
    have hi : i = 0 ∨ i = 1 := by omega
    have hk : k = 0 ∨ k = 1 ∨ k = 2 ∨ k = 3 := by omega
    rcases hi with rfl | rfl <;> rcases hk with rfl | rfl | rfl | rfl <;> exact ⟨_, rfl, Less.of rfl⟩) ?_
  intro z hz
  have := cho3 hz
  subst this
  refine ⟨by decide, _, _, _, rfl, rfl, rfl, ?_⟩
  refine exN hB s7_ok 300 rfl (by simp [conj]) ?_
  refine run_callC (choose_hc 0 0 (cdL []) (by decide)) named hB [0] rfl rfl rfl rfl (by simp [conj]) (by simp [conj]) ?_
  intro z hz
  have := cho0 hz
  subst this
  refine ⟨by decide, _, _, _, rfl, rfl, rfl, ?_⟩
  refine exN hB s7_ok 300 rfl (by simp [conj]) ?_
  refine run_callC (choose_hc 0 1 (cdL l4) (by decide)) named hB [3] rfl rfl rfl rfl (by simp [conj]) (by
    show (_ ∧ _ ∧ _) ∧ _ ∧ (_ ∧ _) ∧ _ ∧ True
    refine ⟨⟨rfl, rfl, rfl⟩, rfl, ⟨by omega, by decide⟩, fun i k hi hk => ?_, trivial⟩
    rw [ren_ck]
    have hi : i = 0 := by omega
    have hk : k = 0 ∨ k = 1 ∨ k = 2 ∨ k = 3 := by omega
    rcases hi with rfl <;> rcases hk with rfl | rfl | rfl | rfl <;> exact ⟨_, rfl, Less.of rfl⟩) ?_
  intro z hz
  have := cho4 hz
  subst this
  refine ⟨by decide, _, _, _, rfl, rfl, rfl, ?_⟩
  have e1 : sE ⟨0, 1, 4, 6⟩ = 0 := by decide
  have e2 : sE ⟨0, 0, 4, 6⟩ = 0 := by decide
  refine exI [11] hB s4_ok 300 rfl (by simp [conj, Fits_i64, e1, e2]) ?_
  exact fin_st rfl (by simp [conj]) (by decide)
end Sx
