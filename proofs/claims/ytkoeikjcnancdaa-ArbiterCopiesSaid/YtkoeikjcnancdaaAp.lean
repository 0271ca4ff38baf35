/- agrees: the queues of an arbiter are those of the reference. Conditions: as each theorem says. -/
import Derived.Test.YtkoeikjcnancdaaAo
set_option linter.unusedSimpArgs false
set_option linter.unusedVariables false
namespace Sx
open Go Go.Proofs
set_option maxRecDepth 100000
theorem isFn59 : IsFn Try.prog 59 := ⟨_, _, _, Try.underlying59⟩
abbrev numL (Q : Ld) : List Int := Q.map (·.1)
theorem QOk.keys {s : ASt} {Q : Ld} (h : QOk s Q) : KeysOf s.h (numL Q) := by
  refine ⟨h.lt, fun a => ?_⟩
  rw [h.h, hasQ_iff, List.mem_map]
theorem num_get {Q : Ld} {i : Nat} (hi : i < Q.length) : (numL Q)[i]'(by simpa using hi) = Q[i].1 := by simp
theorem agrees_hc (s : ASt) (Q : Ld) (cap : Nat) (hQ : QOk s Q) (hlq : Q.length < 1000000) :
    HC Try.prog 23 [.ptr 0 0, refV s 2 Q.length] (objH s) [(2, .row 0 Q.length cap 2 (ldr Q) 63)] 3 (fun _ : Unit => True) (fun _ => ⟨.tt, objH s, 3⟩) := by
  have hk := hQ.keys
  have hlen : (numL Q).length = Q.length := by simp
  refine hc_of_run Try.func23 rfl (fun B hB hpin => ?_)
  refine goK hB s2_ok rfl rfl (by simp [conj]) ?_
  refine run_callC (queues_hc s) named hB [0, 1] rfl rfl rfl rfl (by simp [conj]) (by simp [conj, less_rfl]) ?_
  rintro ⟨⟩ _
  refine ⟨show 2 ≤ 4 by omega, _, _, _, rfl, rfl, rfl, ?_⟩
  refine goK hB s2_ok rfl rfl (by simp [conj, isFn59]) ?_
  refine run_condF rfl rfl ?_
  refine goK hB s2_ok rfl rfl (by simp [conj]) ?_
  refine run_range named hB rfl rfl (by simp [conj]) rfl rfl rfl rfl ?_
  intro D l'
  have hB1 : (B.pin2 8 D l').ok := Base.pin2_ok hB
  have hpin1 : PinTo (B.pin2 8 D l') 10 := hpin.pin2 (by omega)
  refine goK hB1 s2_ok rfl rfl (by simp [conj]) ?_
  refine run_callC (sorted58_hc s.h s.v (numL Q) hk (by omega)) named hB1 [10, 6] rfl rfl rfl rfl (by simp [conj]) (by simp [conj, less_rfl]) ?_
  rintro ⟨⟩ _
  refine ⟨show 2 ≤ 3 by omega, _, _, _, rfl, rfl, rfl, ?_⟩
  rw [hlen]
  refine goK hB1 s2_ok rfl rfl (by simp [conj]) ?_
  refine run_loop ?_
  refine run_invK (ι := Nat) hpin1 (fun i => i ≤ Q.length) (fun i => Q.length - i) (fun i => [(0, .clo (.yield l') [] []), (1, .ptr 5 0), (7, .sq 10 0 0 1 Q.length .no), (8, i64 Q.length), (9, i64 i)]) (fun _ => [[(3, .ptr 3 0), (4, .ptr 4 0), (6, .ptr 7 0)]]) [8, 9]
    (fun i => [(0, .cells (objL s 1) 70), (1, .map .i64 s.h (.ints .i64 s.v)), (3, .cells (refL s 2 Q.length .no) 49), (4, .cells [.ff] 4), (5, .cells [.mp 6] 68), (6, .map .i64 s.h (.ints .i64 s.v)), (7, .cells [i64 i] 3), (10, .row 0 Q.length Q.length 1 (rowL .i64 (numL Q)) 3)]) 11 0 (Nat.zero_le _)
    [0, 1, 2, 3, 4, 5, 6, 7, 8, 9, 11] rfl rfl (by simp [conj, less_rfl, ren_rowL, renR_rowL, ren_ldr]) ?_
  intro i hi0 ih
  refine goK hB1 s2_ok rfl rfl (by simp [conj]) ?_
  refine run_cond rfl (fun h => ?_) (fun h => ?_)
  · have hi : i < Q.length := by simpa using h
    have hmem : Q[i] ∈ Q := List.getElem_mem hi
    have hin : s.h Q[i].1 = true := by rw [hQ.h]; exact hasQ_iff.2 ⟨_, hmem, rfl⟩
    have hv := hQ.v _ hmem
    have ih := ih (i + 1) (by omega) (by omega)
    refine goK hB1 s2_ok rfl rfl (by simp [conj, hi]) ?_
    refine run_yield 9 rfl rfl (by simp [conj]) rfl rfl rfl ?_
    refine goK hB1 s2_ok rfl rfl (by simp [conj]) ?_
    refine run_begin 9 rfl rfl rfl rfl ?_
    refine goK hB1 s2_ok rfl rfl (by simp [conj, hi]) ?_
    refine run_condF rfl (by simp [hi, hin, hv]) ?_
    refine goK hB1 s2_ok rfl rfl (by simp [conj, Fits_i64]; omega) ?_
    refine run_round 9 .off rfl rfl rfl rfl ?_
    refine goK hB1 s2_ok rfl rfl (by simp [conj, Fits_i64]; omega) ?_
    refine run_back ?_
    refine run_to hpin1 [0, 1, 2, 3, 4, 5, 6, 7, 8, 9, 10] rfl rfl ?_ ih
    clear ih
    simp [conj, less_rfl, ren_rowL, stAfter, hi, hin, ren_ldr]
  · have hi : i = Q.length := by simp at h; omega
    subst hi
    clear ih
    refine goK hB1 s2_ok rfl rfl (by simp [conj]) ?_
    refine run_inR [] (.inl rfl) trivial rfl rfl (by simp [conj]) ?_
    refine run_endR 9 rfl rfl (by decide) rfl ?_
    refine goK hB1 s2_ok rfl rfl (by simp [conj]) ?_
    refine run_retMC ((More.refl B).pin2 hpin (by omega)) hpin () trivial [8] [0, 1, 2] (.inr ⟨_, rfl⟩) ⟨rfl, rfl, trivial⟩ rfl rfl rfl (by simp [conj]) rfl ?_
    simp [conj, less_rfl, ren_rowL, ren_ldr]
/-- The same over no queue: no row need be at hand. -/
theorem agrees0_hc (s : ASt) (hQ : QOk s []) : HC Try.prog 23 [.ptr 0 0, refV s 2 0] (objH s) [] 2 (fun _ : Unit => True) (fun _ => ⟨.tt, objH s, 2⟩) := by
  have hk := hQ.keys
  refine hc_of_run Try.func23 rfl (fun B hB hpin => ?_)
  refine goK hB s2_ok rfl rfl (by simp [conj]) ?_
  refine run_callC (queues_hc s) named hB [0, 1] rfl rfl rfl rfl (by simp [conj]) (by simp [conj, less_rfl]) ?_
  rintro ⟨⟩ _
  refine ⟨show 2 ≤ 4 by omega, _, _, _, rfl, rfl, rfl, ?_⟩
  refine goK hB s2_ok rfl rfl (by simp [conj, isFn59]) ?_
  refine run_condF rfl rfl ?_
  refine goK hB s2_ok rfl rfl (by simp [conj]) ?_
  refine run_range named hB rfl rfl (by simp [conj]) rfl rfl rfl rfl ?_
  intro D l'
  have hB1 : (B.pin2 7 D l').ok := Base.pin2_ok hB
  have hpin1 : PinTo (B.pin2 7 D l') 9 := hpin.pin2 (by omega)
  refine goK hB1 s2_ok rfl rfl (by simp [conj]) ?_
  refine run_callC (sorted58_hc s.h s.v [] hk (by decide)) named hB1 [9, 5] rfl rfl rfl rfl (by simp [conj]) (by simp [conj, less_rfl]) ?_
  rintro ⟨⟩ _
  refine ⟨show 2 ≤ 3 by omega, _, _, _, rfl, rfl, rfl, ?_⟩
  refine goK hB1 s2_ok rfl rfl (by simp [conj]) ?_
  refine run_loop ?_
  refine goK hB1 s2_ok rfl rfl (by simp [conj]) ?_
  refine run_condF rfl (by simp) ?_
  refine goK hB1 s2_ok rfl rfl (by simp [conj]) ?_
  refine run_inR [] (.inl rfl) trivial rfl rfl (by simp [conj]) ?_
  refine run_endR 8 rfl rfl (by decide) rfl ?_
  refine goK hB1 s2_ok rfl rfl (by simp [conj]) ?_
  refine run_retMC ((More.refl B).pin2 hpin (by omega)) hpin () trivial [7] [0, 1] (.inr ⟨_, rfl⟩) ⟨rfl, rfl, trivial⟩ rfl rfl rfl (by simp [conj]) rfl ?_
  simp [conj, less_rfl]
end Sx
