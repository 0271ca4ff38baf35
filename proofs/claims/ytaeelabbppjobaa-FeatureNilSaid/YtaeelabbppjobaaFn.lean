/- agrees: true where the reference's features are those of the object. Conditions: as the theorem says. -/
import Derived.Test.YtaeelabbppjobaaFm
set_option linter.unusedSimpArgs false
set_option linter.unusedVariables false
namespace Sx
open Go Go.Proofs
set_option maxRecDepth 100000
theorem get_bounds (q : Int) (x : FSt) (id sel : Int) : (0 ≤ (x.get q id sel).t ∧ (x.get q id sel).t < 256) ∧ 0 ≤ (x.get q id sel).c ∧ (x.get q id sel).c < 256 := by
  unfold FSt.get
  cases isId id <;> simp <;> (repeat' split) <;> simp
theorem hostR (q s : Int) (x : FSt) : HC Try.prog 23 [.ptr 0 0] [] (objH q s x) 3 (fun _ : Unit => True) (fun _ => ⟨u64 x.host, [], 3⟩) := by
  refine hc_of_run Try.func23 rfl (fun B hB hpin => ?_)
  refine goK hB s2_ok rfl rfl (by simp [conj, isPt25, isMp64]) ?_
  refine run_condF rfl rfl ?_
  refine goK hB s2_ok rfl rfl (by simp [conj]) ?_
  exact run_retC hpin () trivial [0, 1, 2] rfl rfl (by simp [conj]) rfl (by simp [conj, less_rfl])
def rcHost (q s : Int) (x : FSt) (sg : List Nat) : RC := ⟨23, [.ptr 0 0], [], objH q s x, 3, u64 x.host, [], 3, sg⟩
theorem rcHost_ok {q s : Int} {x : FSt} {sg : List Nat} (h : sg.length = 3) : RcOk Try.prog (rcHost q s x sg) := ⟨hostR q s x, h, Nat.le_refl _⟩
def rcGet (q s : Int) (x : FSt) (id sel : Int) : RC := ⟨14, [refV q s x, u8 id, i64 sel], [], [], 0, refGot q x id sel, [], 0, []⟩
theorem rcGet_ok {q s : Int} (h : 1 ≤ q ∧ q ≤ 65535) {x : FSt} {id sel : Int} : RcOk Try.prog (rcGet q s x id sel) := ⟨refget_hc q s h x id sel, rfl, Nat.le_refl _⟩
abbrev idsL : List SV := [u8 1, u8 2, u8 4, u8 5, u8 6, u8 7, u8 8, u8 10, u8 11, u8 15, u8 130, u8 131]
def idAt (k : Nat) : Int := [1, 2, 4, 5, 6, 7, 8, 10, 11, 15, 130, 131].getD k 0
def agrHp (q s : Int) (x : FSt) : Hp := objH q s x ++ [(3, .cells (refL q s x.vc x) 35), (4, .cells idsL 61)]
set_option maxHeartbeats 4000000 in
theorem agrees_hc (q s : Int) (h : 1 ≤ q ∧ q ≤ 65535) (x : FSt) :
    HC Try.prog 19 [.ptr 0 0, refV q s x] (objH q s x) [] 3 (fun _ : Unit => True) (fun _ => ⟨.tt, objH q s x, 3⟩) := by
  refine hc_of_run Try.func19 rfl (fun B hB hpin => ?_)
  refine goQ hB s2_ok rfl rfl (by simp [conj]) ?_
  refine run_loop ?_
  refine run_inv (ι := Nat) hpin (fun k => k ≤ 12) (fun k => 12 - k) (fun k => [(0, .ptr 0 0), (3, .ptr 3 0), (5, .ptr 4 0), (6, i64 k)]) (fun _ => [])
    (fun k => agrHp q s x) 5 0 (by omega) [0, 1, 2, 3, 5] rfl rfl (by simp [conj, less_rfl]) ?_
  intro k hk ih
  have hk' : k = 12 ∨ k = 0 ∨ k = 1 ∨ k = 2 ∨ k = 3 ∨ k = 4 ∨ k = 5 ∨ k = 6 ∨ k = 7 ∨ k = 8 ∨ k = 9 ∨ k = 10 ∨ k = 11 := by omega
  rcases hk' with e | hk'
  · subst e
    clear ih
    refine goQ hB s2_ok rfl rfl (by simp [conj]) ?_
    refine run_condF rfl (by decide) ?_
    refine goQ hB s2_ok rfl rfl (by simp [conj]) ?_
    refine run_draw0 mixed (fun t => ?_)
    refine run_drawR (M := modeQ s2) 6 named hB s2_ok [(6, rcHost q s x [0, 1, 2])] ⟨rcHost_ok rfl, trivial⟩ rfl rfl rfl rfl rfl rfl (by simp [conj, less_rfl, SO.Live]) (fun t => ?_)
    refine run_drawE rfl ?_
    refine goQ hB s2_ok rfl rfl (by simp [conj]) ?_
    exact run_retC hpin () trivial [0, 1, 2] rfl rfl (by simp [conj]) rfl (by simp [conj, less_rfl])
  rcases hk' with e | e | e | e | e | e | e | e | e | e | e | e
  all_goals
    have ih := ih (k + 1) (by omega) (by omega)
    have hget := get_hc q s h x (idAt k)
    have hb := fun j => get_bounds q x (idAt k) j
    obtain ⟨a, ea⟩ : ∃ a, a = idAt k := ⟨_, rfl⟩
    rw [← ea] at hget hb
    subst e
    have ea : a = _ := ea
    refine goQ hB s2_ok rfl rfl (by simp [conj]) ?_
    refine run_condT rfl (by decide) ?_
    refine goQ hB s2_ok rfl rfl (by simp [conj]) ?_
    refine run_loop ?_
    refine run_inv (ι := Nat) hpin (fun j => j ≤ 4) (fun j => 4 - j) (fun j => [(0, .ptr 0 0), (3, .ptr 3 0), (5, .ptr 4 0), (6, i64 _), (7, i64 j)]) (fun _ => [])
      (fun j => agrHp q s x) 5 0 (by omega) [0, 1, 2, 3, 4] rfl rfl (by simp [conj, less_rfl]; exact rfl) ?_
    intro j hj ihj
    refine goQ hB s2_ok rfl rfl (by simp [conj]) ?_
    refine run_cond rfl (fun g => ?_) (fun g => ?_)
    · have ihj := ihj (j + 1) (by simp at g; omega) (by simp at g; omega)
      have hj1 : j < 4 := by simp at g; omega
      refine goQ hB s2_ok rfl rfl (by simp [conj, Fits_i64]) ?_
      refine run_callC (hget j) named hB [0, 1, 2] rfl rfl rfl rfl (by simp [conj]) (by simp [conj, less_rfl, ea, idAt]) ?_
      rintro ⟨⟩ _
      refine ⟨show 3 ≤ 3 by omega, _, _, _, rfl, rfl, rfl, ?_⟩
      refine goQ hB s2_ok rfl rfl (by simp [conj]) ?_
      refine run_draw0 mixed (fun t => ?_)
      refine run_drawR (M := modeQ s2) 11 named hB s2_ok [(11, rcGet q s x a j)] ⟨rcGet_ok h, trivial⟩ rfl rfl rfl rfl rfl rfl (by simp [conj, less_rfl, ea, idAt]) (fun t => ?_)
      refine run_drawE rfl ?_
      refine goQ hB s2_ok rfl rfl (by simp [conj, hb j]) ?_
      refine run_condF rfl (by simp [codeOf]) ?_
      refine goQ hB s2_ok rfl rfl (by simp [conj, Fits_i64]; omega) ?_
      refine run_back ?_
      refine run_to hpin [0, 1, 2, 3, 4] rfl rfl (by simp [conj, less_rfl]) ihj
    · clear ihj
      refine goQ hB s2_ok rfl rfl (by simp [conj, Fits_i64]) ?_
      refine run_back ?_
      refine run_to hpin [0, 1, 2, 3, 4] rfl rfl (by simp [conj, less_rfl]) ih
end Sx
