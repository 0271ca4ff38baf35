/- feature.list: the map of descriptions. Conditions: as the theorem says. -/
import Derived.Test.YtaeelabbppjobaaFb
set_option linter.unusedSimpArgs false
set_option linter.unusedVariables false
namespace Sx
open Go Go.Proofs
set_option maxRecDepth 100000
def oneOut (m : Int) : Unit → Out := fun _ => ⟨.clo (.func 57) [] [.ptr 0 0], [(0, .cells [u32 m] 30)], 1⟩
theorem within_hc (m : Int) : HC Try.prog 44 [u32 m] [] [] 0 (fun _ : Unit => True) (oneOut m) := by
  refine hc_of_run Try.func44 rfl (fun B hB hpin => ?_)
  refine goL hB (sumOk_nil _) rfl rfl conj_nil ?_
  exact run_retC hpin () trivial [0] rfl rfl conj_nil rfl (by simp [conj])
def mkF : Mk := fun f xs => match f, xs with
  | 44, [.int .u32 m] => some (.clo (.func 57) [] [.ptr 0 0], .cells [u32 m] 30)
  | _, _ => none
theorem mkF_ok : MkOk Try.prog mkF := by
  intro f xs v so h
  unfold mkF at h
  split at h <;> first | exact (none_ne h).elim | skip
  simp only [Option.some.injEq, Prod.mk.injEq] at h
  obtain ⟨rfl, rfl⟩ := h
  exact ⟨rfl, trivial, within_hc _⟩
/-- The keys. -/
def isId (a : Int) : Bool := 0 ≤ idxOf a
abbrev wi (n : Nat) : SV := .clo (.func 57) [] [.ptr n 0]
abbrev same : SV := .clo (.func 45) [] []
def mostV (q : Int) : Int := IntKind.u32.wrap (q - 1)
def most2 (q : Int) : Int := IntKind.u32.wrap (BitVec.ofInt IntKind.u32.bits (IntKind.u32.wrap (mostV q * 2 ^ min (Int.toNat 16) IntKind.u32.bits)) ||| BitVec.ofInt IntKind.u32.bits (mostV q)).toNat
def aboutV (q : Int) (a : Int) : SV :=
  if a = 1 then .agg [u32 0, .tt, wi 3, same] else if a = 2 then .agg [u32 0, .tt, .clo (.func 46) [] [.ptr 1 0], same] else if a = 4 then .agg [u32 343, .tt, wi 4, same] else if a = 5 then .agg [u32 0, .tt, wi 5, same]
  else if a = 6 then .agg [u32 1, .tt, wi 6, same] else if a = 7 then .agg [u32 (most2 q), .ff, .clo (.func 47) [] [], .clo (.func 49) [] [.ptr 2 0]] else if a = 8 then .agg [u32 0, .tt, wi 7, same]
  else if a = 10 then .agg [u32 0, .tt, wi 8, same] else if a = 11 then .agg [u32 0, .tt, wi 9, same] else if a = 15 then .agg [u32 0, .ff, wi 10, same] else if a = 130 then .agg [u32 0, .ff, wi 11, same] else .agg [u32 0, .tt, wi 12, same]
def listH (q s : Int) : Hp := [(0, .map .u8 isId (.any (aboutV q))), (1, .cells [i64 q, i64 s] 23), (2, .cells [u32 (mostV q)] 30), (3, .cells [u32 4294967047] 30), (4, .cells [u32 4194303] 30), (5, .cells [u32 131071] 30), (6, .cells [u32 1] 30),
  (7, .cells [u32 65535] 30), (8, .cells [u32 1] 30), (9, .cells [u32 2281704447] 30), (10, .cells [u32 4294967295] 30), (11, .cells [u32 14] 30), (12, .cells [u32 1] 30)]
theorem isId_cases {a : Int} (h : isId a = true) : a = 1 ∨ a = 2 ∨ a = 4 ∨ a = 5 ∨ a = 6 ∨ a = 7 ∨ a = 8 ∨ a = 10 ∨ a = 11 ∨ a = 15 ∨ a = 130 ∨ a = 131 := by
  unfold isId idxOf at h
  repeat' split at h
  all_goals first | omega | simp at h
theorem keys_cases {v1 v2 v4 v5 v6 v7 v8 v10 v11 v15 v130 v131 : SV} {a : Int} (h : kH [(1, v1), (2, v2), (4, v4), (5, v5), (6, v6), (7, v7), (8, v8), (10, v10), (11, v11), (15, v15), (130, v130), (131, v131)] a = true) :
    a = 1 ∨ a = 2 ∨ a = 4 ∨ a = 5 ∨ a = 6 ∨ a = 7 ∨ a = 8 ∨ a = 10 ∨ a = 11 ∨ a = 15 ∨ a = 130 ∨ a = 131 := by
  simp [kH, ieq] at h
  omega
theorem list_hc (q s : Int) (h : 1 ≤ q ∧ q ≤ 65535) : HC Try.prog 35 [.agg [i64 q, i64 s]] [] [] 0 (fun _ : Unit => True) (fun _ => ⟨.mp 0, listH q s, 13⟩) := by
  refine hc_of_run Try.func35 rfl (fun B hB hpin => ?_)
  refine goL hB s2_ok rfl rfl (by simp only [conj, Fits_i64, and_true]; omega) ?_
  refine run_draw0 mixed (fun t => ?_)
  refine run_drawM (M := modeL s2) 43 named hB s2_ok mkF_ok   .u8 0 rfl rfl rfl rfl rfl (by simp [conj]) rfl rfl rfl rfl (fun t => ?_)
  refine run_drawE rfl ?_
  refine goL hB s2_ok rfl rfl conj_nil ?_
  refine run_retC hpin () trivial [2, 0, 1, 3, 9, 12, 15, 25, 28, 31, 34, 37, 40] rfl rfl conj_nil rfl ?_
  refine ⟨fun a => ?_, fun a ha => ?_, ?_⟩
  · rw [Bool.eq_iff_iff]
    constructor
    · intro h
      rcases isId_cases h with rfl | rfl | rfl | rfl | rfl | rfl | rfl | rfl | rfl | rfl | rfl | rfl <;> rfl
    · intro h
      rcases keys_cases h with rfl | rfl | rfl | rfl | rfl | rfl | rfl | rfl | rfl | rfl | rfl | rfl <;> rfl
  · rcases keys_cases ha with rfl | rfl | rfl | rfl | rfl | rfl | rfl | rfl | rfl | rfl | rfl | rfl <;> exact fun β x hx => hx
  · simp [conj, mostV]
end Sx
