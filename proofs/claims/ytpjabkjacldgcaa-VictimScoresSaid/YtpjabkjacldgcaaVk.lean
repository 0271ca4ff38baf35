/- Choose at no candidate. Conditions: none. -/
import Derived.Test.YtpjabkjacldgcaaVi
namespace Sx
open Go Go.Proofs
theorem order_nil : Pure Try.prog 18 [.nilsl] (.tup [.nilsl, .tt]) := by
  refine pure_of_run Try.func18 rfl (fun w => ?_)
  refine exN (Base.all_ok w) s8_ok 300 rfl (by simp [conj]) ?_
  refine run_loop ?_
  refine exN (Base.all_ok w) s8_ok 300 rfl (by simp [conj]) ?_
  refine run_cond rfl (fun h => by simp at h) (fun h => ?_)
  refine exN (Base.all_ok w) s8_ok 300 rfl (by simp [conj]) ?_
  exact fin rfl (by simp [conj]) rfl rfl
def F18 : List SV → Option (List Prop × SV)
  | [.nilsl] => some ([], .tup [.nilsl, .tt])
  | _ => none
theorem F18_ok : PureOk Try.prog 18 F18 := by
  intro xs cs r h hc
  unfold F18 at h
  split at h <;> first | exact (none_ne h).elim | skip
  simp only [Option.some.injEq, Prod.mk.injEq] at h; obtain ⟨rfl, rfl⟩ := h
  exact ⟨rfl, order_nil⟩
def s9 : SumL := (18, F18) :: s8
theorem s9_ok : SumOk Try.prog (sumOf s9) := sumOk_cons F18_ok s8_ok
theorem choose_nil : HC Try.prog 9 [.nilsl] [] [] 0 (fun z : Int × Int => z = (0, 9)) (fun z => ⟨.tup [.int .i64 z.1, .int .i64 z.2], [], 0⟩) := by
  refine hc_of_run Try.func9 rfl (fun B hB hpin => ?_)
  refine exI [12] hB s9_ok 300 rfl (by simp [conj]) ?_
  refine run_range named hB rfl rfl (by simp [conj]) rfl rfl rfl rfl ?_
  intro D l
  refine exN (Base.pin2_ok hB) s8_ok 300 rfl (by simp [conj]) ?_
  refine run_loop ?_
  refine exN (Base.pin2_ok hB) s8_ok 300 rfl (by simp [conj]) ?_
  refine run_cond rfl (fun h => by simp at h) (fun _ => ?_)
  refine exN (Base.pin2_ok hB) s8_ok 300 rfl (by simp [conj]) ?_
  refine run_inR [] (.inl rfl) trivial rfl rfl (by simp [conj]) ?_
  refine run_endR 4 rfl rfl (by decide) rfl ?_
  refine exN (Base.pin2_ok hB) s8_ok 300 rfl (by simp [conj]) ?_
  exact run_retMC (ψ := fun z : Int × Int => z = (0, 9)) (B := B) (B' := B.pin2 3 D l) (np := 0) ((More.refl B).pin2 hpin (by omega)) hpin ((0 : Int), (9 : Int)) rfl [3] [] (.inr ⟨_, rfl⟩) ⟨rfl, rfl, trivial⟩ rfl rfl rfl (by simp [conj]) rfl (by simp [conj])
end Sx
