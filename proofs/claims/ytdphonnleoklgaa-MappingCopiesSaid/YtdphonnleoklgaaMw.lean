/- The examples of chapter 07. Conditions: as each theorem says. -/
import Derived.Test.YtdphonnleoklgaaMj
set_option linter.unusedSimpArgs false
set_option linter.unusedVariables false
namespace Sx
open Go Go.Proofs
set_option maxRecDepth 100000
def modeW : Mode := { st := true, unr := true, inl := fun f => !hasN f [8, 10, 18, 19, 22, 23, 24], sum := sumOf s2, keep := fun _ => none }
theorem goW {B : Base} (hB : B.ok) {ro : Hp} {f : FuncId} {R : Ending → World → Prop} (S : List (Nat × Nat)) (m : Nat) {cs : List Prop} {c c' : Cfg} (h : execY Try.prog modeW ro S m [] c = (cs, c')) (hc : conj cs)
    (hr : Run Try.prog ro B f R c') : Run Try.prog ro B f R c := run_goY mixed named hB s2_ok S m h hc hr
theorem isFn45 : IsFn Try.prog 45 := ⟨_, _, _, Try.underlying45⟩
def L1 : Ld := [(0, 1), (2, 4)]
def L2 : Ld := [(0, 1), (1, 4)]
theorem inv1 : MInv 4 (2 * 3) L1 := ⟨by simp [L1], by simp [L1], by simp [L1]⟩
theorem inv2 : MInv 4 (2 * 3) L2 := ⟨by simp [L2], by simp [L2], by simp [L2]⟩
set_option maxHeartbeats 40000000 in
theorem works_pure : Pure Try.prog 7 [] .tt := by
  refine pure_of_run Try.func7 rfl (fun w' => ?_)
  have hpin : PinTo (Base.all w') 0 := ⟨fun _ _ => rfl, rfl⟩
  have hm : ∀ a, hasS L1 a = true ↔ a ∈ ([0, 2] : List Int) := fun a => by
    rw [hasS_iff]; simp [L1, eq_comm]
  refine goW (Base.all_ok _) [] 300 rfl (by simp [conj]) ?_
  refine run_callC (new_ok 4 2 3 (by decide)) named (Base.all_ok _) [] rfl rfl rfl rfl (by simp [conj]) (by simp [conj, less_rfl]) ?_
  rintro ⟨⟩ _
  refine ⟨show 0 ≤ 4 by omega, _, _, _, rfl, rfl, rfl, ?_⟩
  refine goW (Base.all_ok _) [] 900 rfl (by simp [conj, Fits_i64, isPt25, isMp58, isFn45, isBo4] <;> decide +kernel) ?_
  refine run_callC (apply_hc 4 2 3 (by decide) [] (MInv.nil _ _) [(2, 4), (0, 1)] 0 2 (by decide)) named (Base.all_ok _) [0, 1, 2, 3, 4] rfl rfl rfl rfl (by simp [conj]) ?_ ?_
  · simp [conj, less_rfl, ren_cntF, renR_cntF]
    intro i k hi hk
    rw [ren_ldr]
    have hi' : i = 0 ∨ i = 1 := by omega
    have hk' : k = 0 ∨ k = 1 := by omega
    rcases hi' with rfl | rfl <;> rcases hk' with rfl | rfl <;> first | exact ⟨_, rfl, Less.rfl⟩ | omega
  rintro ⟨⟩ _
  refine ⟨show 5 ≤ 5 by omega, _, _, _, rfl, rfl, rfl, ?_⟩
  have e1 : appG 4 2 3 [] [] [(2, 4), (0, 1)] = (L1, 0) := by decide +kernel
  rw [e1]
  refine goW (Base.all_ok _) [] 900 rfl (by simp [conj, Fits_i64, isPt25, isMp58, isFn45, isBo4] <;> decide +kernel) ?_
  refine run_mlen [0, 2] (by simp) hm rfl rfl (by simp [conj]) rfl rfl ?_
  refine goW (Base.all_ok _) [] 900 rfl (by simp [conj, Fits_i64, isPt25, isMp58, isFn45, isBo4] <;> decide +kernel) ?_
  refine run_callC (apply_hc 4 2 3 (by decide) L1 inv1 [(1, 4)] 0 1 (by decide)) named (Base.all_ok _) [0, 1, 2, 3, 5] rfl rfl rfl rfl (by simp [conj]) ?_ ?_
  · simp [conj, less_rfl, ren_cntF, renR_cntF]
    intro i k hi hk
    rw [ren_ldr]
    have hi' : i = 0 ∨ i = 1 := by omega
    have hk' : k = 0 ∨ k = 1 := by omega
    rcases hi' with rfl | rfl <;> rcases hk' with rfl | rfl <;> first | exact ⟨_, rfl, Less.rfl⟩ | omega
  rintro ⟨⟩ _
  refine ⟨show 5 ≤ 5 by omega, _, _, _, rfl, rfl, rfl, ?_⟩
  have e2 : appG 4 2 3 L1 L1 [(1, 4)] = (L1, 11) := by decide +kernel
  rw [e2]
  refine goW (Base.all_ok _) [] 900 rfl (by simp [conj, Fits_i64, isPt25, isMp58, isFn45, isBo4] <;> decide +kernel) ?_
  refine run_callC (apply_hc 4 2 3 (by decide) L1 inv1 [(2, 5), (4, 0)] 0 2 (by decide)) named (Base.all_ok _) [0, 1, 2, 3, 6] rfl rfl rfl rfl (by simp [conj]) ?_ ?_
  · simp [conj, less_rfl, ren_cntF, renR_cntF]
    intro i k hi hk
    rw [ren_ldr]
    have hi' : i = 0 ∨ i = 1 := by omega
    have hk' : k = 0 ∨ k = 1 := by omega
    rcases hi' with rfl | rfl <;> rcases hk' with rfl | rfl <;> first | exact ⟨_, rfl, Less.rfl⟩ | omega
  rintro ⟨⟩ _
  refine ⟨show 5 ≤ 5 by omega, _, _, _, rfl, rfl, rfl, ?_⟩
  have e3 : appG 4 2 3 L1 L1 [(2, 5), (4, 0)] = (L1, 3) := by decide +kernel
  rw [e3]
  refine goW (Base.all_ok _) [] 900 rfl (by simp [conj, Fits_i64, isPt25, isMp58, isFn45, isBo4] <;> decide +kernel) ?_
  refine run_callC (apply_hc 4 2 3 (by decide) L1 inv1 [(2, 6)] 0 1 (by decide)) named (Base.all_ok _) [0, 1, 2, 3, 7] rfl rfl rfl rfl (by simp [conj]) ?_ ?_
  · simp [conj, less_rfl, ren_cntF, renR_cntF]
    intro i k hi hk
    rw [ren_ldr]
    have hi' : i = 0 ∨ i = 1 := by omega
    have hk' : k = 0 ∨ k = 1 := by omega
    rcases hi' with rfl | rfl <;> rcases hk' with rfl | rfl <;> first | exact ⟨_, rfl, Less.rfl⟩ | omega
  rintro ⟨⟩ _
  refine ⟨show 5 ≤ 5 by omega, _, _, _, rfl, rfl, rfl, ?_⟩
  have e4 : appG 4 2 3 L1 L1 [(2, 6)] = (L1, 3) := by decide +kernel
  rw [e4]
  refine goW (Base.all_ok _) [] 900 rfl (by simp [conj, Fits_i64, isPt25, isMp58, isFn45, isBo4] <;> decide +kernel) ?_
  refine run_callC (apply_hc 4 2 3 (by decide) L1 inv1 [(2, -1), (1, 4)] 0 2 (by decide)) named (Base.all_ok _) [0, 1, 2, 3, 8] rfl rfl rfl rfl (by simp [conj]) ?_ ?_
  · simp [conj, less_rfl, ren_cntF, renR_cntF]
    intro i k hi hk
    rw [ren_ldr]
    have hi' : i = 0 ∨ i = 1 := by omega
    have hk' : k = 0 ∨ k = 1 := by omega
    rcases hi' with rfl | rfl <;> rcases hk' with rfl | rfl <;> first | exact ⟨_, rfl, Less.rfl⟩ | omega
  rintro ⟨⟩ _
  refine ⟨show 5 ≤ 5 by omega, _, _, _, rfl, rfl, rfl, ?_⟩
  have e5 : appG 4 2 3 L1 L1 [(2, -1), (1, 4)] = (L2, 0) := by decide +kernel
  rw [e5]
  refine goW (Base.all_ok _) [] 900 rfl (by simp [conj, Fits_i64, isPt25, isMp58, isFn45, isBo4] <;> decide +kernel) ?_
  refine run_callC (pages_hc 4 2 3 (by decide) L2 inv2 1) named (Base.all_ok _) [0, 1, 2, 3] rfl rfl rfl rfl (by simp [conj]) ?_ ?_
  · simp [conj, less_rfl, ren_cntF, renR_cntF]
  rintro ⟨⟩ _
  refine ⟨show 4 ≤ 8 by omega, _, _, _, rfl, rfl, rfl, ?_⟩
  have e6 : ofL L2 2 3 1 = [(1, 4)] := by decide +kernel
  rw [e6]
  refine goW (Base.all_ok _) [] 900 rfl (by simp [conj, Fits_i64, isPt25, isMp58, isFn45, isBo4] <;> decide +kernel) ?_
  refine run_callC (entries_hc 4 2 3 L2 inv2 (by decide)) named (Base.all_ok _) [0, 1, 2, 3] rfl rfl rfl rfl (by simp [conj]) ?_ ?_
  · simp [conj, less_rfl, ren_cntF, renR_cntF]
  rintro ⟨⟩ _
  refine ⟨show 4 ≤ 5 by omega, _, _, _, rfl, rfl, rfl, ?_⟩
  refine goW (Base.all_ok _) [] 900 rfl (by simp [conj, Fits_i64, isPt25, isMp58, isFn45, isBo4] <;> decide +kernel) ?_
  refine run_callC (same_hc L2 L2 0 0 2 2 (by decide)) named (Base.all_ok _) [13, 14] rfl rfl rfl rfl (by simp [conj]) ?_ ?_
  · simp [conj, less_rfl, ren_ldr, renR_ldr, ren_rowL, renR_rowL, ren_cntF, renR_cntF, show L2.length = 2 from rfl]
    intro i k hi hk
    have hi' : i = 0 ∨ i = 1 := by omega
    have hk' : k = 0 ∨ k = 1 := by omega
    rcases hi' with rfl | rfl <;> rcases hk' with rfl | rfl <;> first | exact ⟨_, rfl, Less.rfl⟩ | omega
  rintro ⟨⟩ _
  refine ⟨show 2 ≤ 2 by omega, _, _, _, rfl, rfl, rfl, ?_⟩
  refine goW (Base.all_ok _) [] 900 rfl (by simp [conj, Fits_i64, isPt25, isMp58, isFn45, isBo4] <;> decide +kernel) ?_
  refine run_callC (read_hc false [4] [1] [(1, 4)] (rdOk_f [(1, 4)]) (by decide) 9) named (Base.all_ok _) [9, 10, 11, 12] rfl rfl rfl rfl (by simp [conj]) ?_ ?_
  · simp [conj, less_rfl, ren_rowL, renR_rowL]
  rintro ⟨⟩ _
  refine ⟨show 4 ≤ 5 by omega, _, _, _, rfl, rfl, rfl, ?_⟩
  refine goW (Base.all_ok _) [] 900 rfl (by simp [conj, Fits_i64, isPt25, isMp58, isFn45, isBo4] <;> decide +kernel) ?_
  refine run_callC (same_hc [(1, 4)] [(1, 4)] 0 0 1 1 (by decide)) named (Base.all_ok _) [15, 16] rfl rfl rfl rfl (by simp [conj]) ?_ ?_
  · simp [conj, less_rfl, ren_ldr, renR_ldr, ren_rowL, renR_rowL, ren_cntF, renR_cntF, show L2.length = 2 from rfl]
    refine ⟨by decide, by decide, ?_⟩
    intro i k hi hk
    have hi' : i = 0 ∨ i = 1 := by omega
    have hk' : k = 0 ∨ k = 1 := by omega
    rcases hi' with rfl | rfl <;> rcases hk' with rfl | rfl <;> first | exact ⟨_, rfl, Less.rfl⟩ | omega
  rintro ⟨⟩ _
  refine ⟨show 2 ≤ 2 by omega, _, _, _, rfl, rfl, rfl, ?_⟩
  refine goW (Base.all_ok _) [] 900 rfl (by simp [conj, Fits_i64, isPt25, isMp58, isFn45, isBo4] <;> decide +kernel) ?_
  exact fin rfl (by simp [conj]) rfl rfl
end Sx
