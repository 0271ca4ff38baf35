/- Queues, Copy. Conditions: as each theorem says. -/
import Derived.Test.YtkoeikjcnancdaaAn
set_option linter.unusedSimpArgs false
set_option linter.unusedVariables false
namespace Sx
open Go Go.Proofs
set_option maxRecDepth 100000
theorem isClone : IsClone Try.prog 57 Try.f57 := ⟨Try.func57, rfl, rfl, by kernel_rfl, by kernel_rfl⟩
theorem clone_hc (h : Int → Bool) (v : Int → Int) : HC Try.prog 43 [.mp 0] [(0, .map .i64 h (.ints .i64 v))] [] 1 (fun _ : Unit => True) (fun _ => ⟨.mp 1, [(0, .map .i64 h (.ints .i64 v)), (1, .map .i64 h (.ints .i64 v))], 2⟩) := by
  refine hc_of_run Try.func43 rfl (fun B hB hpin => ?_)
  refine goK hB s2_ok rfl rfl (by simp [conj, isMp68]) ?_
  refine run_condF rfl rfl ?_
  refine goK hB s2_ok rfl rfl (by simp [conj]) ?_
  refine run_mclone hB isClone rfl rfl (by simp [conj]) rfl rfl ?_
  refine goK hB s2_ok rfl rfl (by simp [conj]) ?_
  exact run_retC hpin () trivial [0, 1] rfl rfl (by simp [conj]) rfl (by simp [conj, less_rfl])
theorem queues_hc (s : ASt) : HC Try.prog 20 [.ptr 0 0] (objH s) [] 2 (fun _ : Unit => True) (fun _ => ⟨.clo (.func 44) [] [.ptr 2 0], objH s ++ [(2, .cells [.mp 3] 68), (3, .map .i64 s.h (.ints .i64 s.v))], 4⟩) := by
  refine hc_of_run Try.func20 rfl (fun B hB hpin => ?_)
  refine goK hB s2_ok rfl rfl (by simp [conj, isPt25, isMp68]) ?_
  refine run_condT rfl rfl ?_
  refine goK hB s2_ok rfl rfl (by simp [conj]) ?_
  refine run_callC (clone_hc s.h s.v) named hB [1] rfl rfl rfl rfl (by simp [conj]) (by simp [conj, less_rfl]) ?_
  rintro ⟨⟩ _
  refine ⟨show 1 ≤ 2 by omega, _, _, _, rfl, rfl, rfl, ?_⟩
  refine goK hB s2_ok rfl rfl (by simp [conj]) ?_
  exact run_retC hpin () trivial [0, 1, 2, 3] rfl rfl (by simp [conj]) rfl (by simp [conj, less_rfl])
def inL (l : List Int) (a : Int) : Bool := l.any fun x => ieq a x
theorem inL_iff {l : List Int} {a : Int} : inL l a = true ↔ a ∈ l := by
  unfold inL ieq; simp
theorem copy_hc (s : ASt) (l : List Int) (hk : KeysOf s.h l) (hl : l.length < 1000000) : HC Try.prog 22 [.ptr 0 0] (objH s) [] 2 (fun _ : Unit => True) (fun _ => ⟨.ptr 2 0, objN s 0 1 ++ objN s 2 3, 4⟩) := by
  refine hc_of_run Try.func22 rfl (fun B hB hpin => ?_)
  refine goK hB s2_ok rfl rfl (by simp [conj, isPt25, isMp68]) ?_
  refine run_condF rfl rfl ?_
  refine goK hB s2_ok rfl rfl (by simp [conj]) ?_
  refine run_callC (queues_hc s) named hB [0, 1] rfl rfl rfl rfl (by simp [conj]) (by simp [conj, less_rfl]) ?_
  rintro ⟨⟩ _
  refine ⟨show 2 ≤ 4 by omega, _, _, _, rfl, rfl, rfl, ?_⟩
  refine goK hB s2_ok rfl rfl (by simp [conj]) ?_
  refine run_range named hB rfl rfl (by simp [conj]) rfl rfl rfl rfl ?_
  intro D l'
  have hB1 : (B.pin2 6 D l').ok := Base.pin2_ok hB
  have hpin1 : PinTo (B.pin2 6 D l') 8 := hpin.pin2 (by omega)
  refine goK hB1 s2_ok rfl rfl (by simp [conj]) ?_
  refine run_callC (sorted58_hc s.h s.v l hk hl) named hB1 [8, 5] rfl rfl rfl rfl (by simp [conj]) (by simp [conj, less_rfl]) ?_
  rintro ⟨⟩ _
  refine ⟨show 2 ≤ 3 by omega, _, _, _, rfl, rfl, rfl, ?_⟩
  refine goK hB1 s2_ok rfl rfl (by simp [conj]) ?_
  refine run_loop ?_
  refine run_invK (ι := Nat) hpin1 (fun i => i ≤ l.length) (fun i => l.length - i) (fun i => [(0, .clo (.yield l') [] []), (1, .ptr 4 0), (7, .sq 8 0 0 1 l.length .no), (8, i64 l.length), (9, i64 i)]) (fun _ => [[(3, .ptr 2 0)]]) [6, 7]
    (fun i => [(0, .cells (objL s 1) 70), (1, .map .i64 s.h (.ints .i64 s.v)), (2, .cells (objL s 3) 70), (3, .map .i64 (inL (l.take i)) (.ints .i64 s.v)), (4, .cells [.mp 5] 68), (5, .map .i64 s.h (.ints .i64 s.v)), (8, .row 0 l.length l.length 1 (rowL .i64 l) 3)]) 9 0 (Nat.zero_le _)
    [0, 1, 2, 3, 4, 5, 6, 7, 9] rfl rfl (by simp [conj, less_rfl, ren_rowL, renR_rowL, inL]) ?_
  intro i hi0 ih
  refine goK hB1 s2_ok rfl rfl (by simp [conj]) ?_
  refine run_cond rfl (fun h => ?_) (fun h => ?_)
  · have hi : i < l.length := by simpa using h
    have hin : s.h l[i] = true := (hk.2 _).1 (List.getElem_mem hi)
    have ih := ih (i + 1) (by omega) (by omega)
    refine goK hB1 s2_ok rfl rfl (by simp [conj, hi]) ?_
    refine run_yield 7 rfl rfl (by simp [conj]) rfl rfl rfl ?_
    refine goK hB1 s2_ok rfl rfl (by simp [conj]) ?_
    refine run_begin 7 rfl rfl rfl rfl ?_
    refine goK hB1 s2_ok rfl rfl (by simp [conj]) ?_
    refine run_round 7 .off rfl rfl rfl rfl ?_
    refine goK hB1 s2_ok rfl rfl (by simp [conj, Fits_i64]; omega) ?_
    refine run_back ?_
    refine run_to hpin1 [0, 1, 2, 3, 4, 5, 6, 7, 8] rfl rfl ?_ ih
    clear ih
    simp [conj, less_rfl, ren_rowL, stAfter, hi, hin]
    refine ⟨fun a => ?_, fun a _ => ?_⟩
    · rw [List.take_succ_eq_append_getElem hi]
      unfold inL
      rw [List.any_append, Bool.or_comm]
      simp
    · unfold ieq
      by_cases e : a = l[i] <;> simp [e]
  · have hi : i = l.length := by simp at h; omega
    subst hi
    clear ih
    rw [List.take_length]
    refine goK hB1 s2_ok rfl rfl (by simp [conj]) ?_
    refine run_inR [] (.inl rfl) trivial rfl rfl (by simp [conj]) ?_
    refine run_endR 7 rfl rfl (by decide) rfl ?_
    refine goK hB1 s2_ok rfl rfl (by simp [conj]) ?_
    refine run_retMC ((More.refl B).pin2 hpin (by omega)) hpin () trivial [6] [0, 1, 2, 3] (.inr ⟨_, rfl⟩) ⟨rfl, rfl, trivial⟩ rfl rfl rfl (by simp [conj]) rfl ?_
    simp [conj, less_rfl, ren_rowL]
    intro a
    rw [Bool.eq_iff_iff, inL_iff]
    exact (hk.2 a).symm
end Sx
