/- What AnaBounds computes, up to its last calls. Conditions: as each theorem says. -/
import Derived.Test.YtlpbmlfejiaamaaNd
set_option linter.unusedSimpArgs false
set_option linter.unusedVariables false
namespace Sx
open Go Go.Proofs
set_option maxRecDepth 100000
/-- The members after k calls of Add. -/
def hK (k : Nat) : Int → Bool := fun a => decide (4294967294 - (k : Int) ≤ a ∧ a < 4294967294)
def vK : Int → Int := fun a => 1 + (4294967294 - a) % 128
def keysK (k : Nat) : List Int := (List.range k).map fun (j : Nat) => 4294967293 - (j : Int)
theorem keysK_len (k : Nat) : (keysK k).length = k := by simp [keysK]
theorem keysK_nodup (k : Nat) : (keysK k).Nodup := by
  unfold keysK
  rw [List.nodup_iff_pairwise_ne, List.pairwise_map]
  exact (List.nodup_range (n := k)).imp fun {a b} hne e => hne (by omega)
theorem keysK_mem (k : Nat) (a : Int) : hK k a = true ↔ a ∈ keysK k := by
  unfold hK keysK
  rw [decide_eq_true_iff, List.mem_map]
  constructor
  · intro h
    exact ⟨(4294967293 - a).toNat, List.mem_range.2 (by omega), by omega⟩
  · rintro ⟨j, hj, rfl⟩
    have := List.mem_range.1 hj
    omega
/-- All groups alike. -/
def gF : Nat → Nat → SV := fun _ k => match k with
  | 0 => i64 1
  | 1 => i64 0
  | _ => .int .u64 0
abbrev gA (T : Int) (F : Nat → Nat → SV) : SO := .arr [i64 T] 128 3 F [i64 128, .mp 0] 64
theorem flat3 (a b c : SV) : ∀ (n i k : Nat), i < n → k < 3 → ((List.replicate n [a, b, c]).flatten)[i * 3 + k]? = [a, b, c][k]?
  | 0, i, k, hi, hk => by omega
  | n + 1, 0, k, hi, hk => by
    rw [List.replicate_succ, List.flatten_cons, List.getElem?_append_left (by simp; omega)]
    congr 1; omega
  | n + 1, i + 1, k, hi, hk => by
    rw [List.replicate_succ, List.flatten_cons, List.getElem?_append_right (by simp; omega)]
    rw [← flat3 a b c n i k (by omega) hk]
    congr 1
    simp; omega
theorem gF_cells (i k : Nat) (hi : i < 128) (hk : k < 3) : ∃ u, (i64 0 :: ((List.replicate 128 [i64 1, i64 0, SV.int .u64 0]).flatten ++ [i64 128, .mp 0]))[1 + i * 3 + k]? = some u ∧ Less (gF i k) u := by
  have h := flat3 (i64 1) (i64 0) (.int .u64 0) 128 i k hi hk
  have hlt : i * 3 + k < ((List.replicate 128 [i64 1, i64 0, SV.int .u64 0]).flatten).length := by simp; omega
  rw [show 1 + i * 3 + k = i * 3 + k + 1 by omega, List.getElem?_cons_succ, List.getElem?_append_left hlt, h]
  match k, hk with
  | 0, _ => exact ⟨_, rfl, Less.rfl⟩
  | 1, _ => exact ⟨_, rfl, Less.rfl⟩
  | 2, _ => exact ⟨_, rfl, Less.rfl⟩
/-- The groups after the g-th has changed. -/
def gG (g : Int) : Nat → Nat → SV := fun i k => match k with
  | 0 => i64 (if i = (g - 1).toNat then 3 else 1)
  | 1 => i64 (if i = (g - 1).toNat then 1099511627776 else 0)
  | _ => .int .u64 (if i = (g - 1).toNat then 1 else 0)
theorem gG_upd (g : Int) (i k : Nat) (hk : k < 3) : gG g i k = updF (updF (updF gF (g-1).toNat 0 (SV.int .i64 3).cells) (g-1).toNat 1 (SV.int .i64 ((bif true then max 0 (1099511627776 - 65536) else min 0 (1099511627776 - 65536)) + 65536)).cells) (g-1).toNat 2 (SV.int .u64 (IntKind.u64.wrap (0+1))).cells i k := by
  have hw : IntKind.u64.wrap (0 + 1) = 1 := by decide +kernel
  rw [hw]
  unfold gG
  generalize (g - 1).toNat = q
  by_cases e : i = q
  · match k, hk with
    | 0, _ => simp [updF, gF, SV.cells, e]
    | 1, _ => simp [updF, gF, SV.cells, e]; decide +kernel
    | 2, _ => simp [updF, gF, SV.cells, e]
  · match k, hk with
    | 0, _ => simp [updF, gF, SV.cells, e]
    | 1, _ => simp [updF, gF, SV.cells, e]
    | 2, _ => simp [updF, gF, SV.cells, e]
theorem ren_gG (g : Int) (nx : Nat) (sg : List Nat) (i k : Nat) : ren nx sg (gG g i k) = gG g i k := by
  unfold gG; split <;> simp only [ren, renF, id]
theorem ren_gF (nx : Nat) (sg : List Nat) (i k : Nat) : ren nx sg (gF i k) = gF i k := by
  unfold gF; split <;> simp only [ren, renF, id]
theorem pin0 (w : World) : PinTo (Base.all w) 0 := ⟨fun _ _ => rfl, rfl⟩
theorem wrapK (k : Nat) (h : k < 1024) : IntKind.u32.wrap (4294967294 - ((k : Int) + 1)) = 4294967293 - (k : Int) := by
  simp [IntKind.wrap, IntKind.bits, IntKind.signed]
  omega
set_option maxHeartbeats 40000000 in
theorem bounds_pure (g : Int) : Pure Try.prog 3 [i64 g] .tt := by
  refine pure_of_run Try.func3 rfl (fun w' => ?_)
  refine goW (Base.all_ok _) [(3, 10)] 1000 rfl (by simp [conj]) ?_
  by_cases h1 : g < 1
  · refine run_tt (by simpa using h1) ?_
    refine goW (Base.all_ok _) [] 1000 rfl (by simp [conj]) ?_
    exact fin rfl (by simp [conj]) rfl rfl
  refine run_ff (by simpa using h1) ?_
  refine goW (Base.all_ok _) [(3, 13)] 1000 rfl (by simp [conj]) ?_
  by_cases h2 : 128 < g
  · refine run_tt (by simpa using h2) ?_
    refine goW (Base.all_ok _) [] 1000 rfl (by simp [conj]) ?_
    exact fin rfl (by simp [conj]) rfl rfl
  refine run_ff (by simpa using h2) ?_
  refine goW (Base.all_ok _) [(3, 25)] 6000 rfl (by simp [conj, Fits_i64] <;> decide +kernel) ?_
  refine run_inv (ι := Nat) (pin0 w') (fun k => k ≤ 1024) (fun k => 1024 - k) (fun k => [(25, .sb (decide ((k : Int) + 1 ≤ 1024))), (7, i64 ((k : Int) + 1)), (0, i64 g), (3, .ptr 1 0), (4, i64 0), (6, i64 2), (2, .ff)]) (fun _ => []) (fun k => [(1, gA 0 gF), (0, .map .u32 (hK k) (.ints .i64 vK))]) 2 0 (by decide) [0, 1] rfl rfl ?_ ?_
  · refine ⟨by simp, rfl, rfl, rfl, rfl, rfl, rfl, rfl, fun i k hi hk => ?_, fun a => ?_, fun a ha => ?_, trivial⟩
    · have := gF_cells i k hi hk
      rw [ren_gF]
      exact this
    · simp [hK]
      try omega
    · cases ha
  intro k hk ih
  by_cases hlt : k < 1024
  · refine run_tt (by simp <;> omega) ?_
    refine goW (Base.all_ok _) [(12, 13)] 3000 rfl (by simp [conj, Fits_i64, isBo4, isPt23, isIf20] <;> omega) ?_
    rw [wrapK k hlt]
    refine run_tt (by simp [nameOk] <;> omega) ?_
    refine goW (Base.all_ok _) [(38, 5)] 3000 rfl (by simp [conj, Fits_i64, isBo4, isPt23, isIf20] <;> omega) ?_
    refine run_tt (by simp <;> omega) ?_
    refine goW (Base.all_ok _) [(38, 11)] 3000 rfl (by simp [conj, Fits_i64, isBo4, isPt23, isIf20] <;> omega) ?_
    refine run_tt (by simp <;> omega) ?_
    refine goW (Base.all_ok _) [(12, 25)] 3000 rfl (by simp [conj, Fits_i64, isBo4, isPt23, isIf20] <;> omega) ?_
    have hn : hK k (4294967293 - (k : Int)) = false := by simp [hK] <;> omega
    refine run_tt (by simp [hn]) ?_
    refine goW (Base.all_ok _) [] 3000 rfl (by simp [conj, Fits_i64, isBo4, isPt23, isIf20] <;> omega) ?_
    refine run_mlenN (keysK k) k (by simp [keysK_len]) (keysK_nodup k) (keysK_mem k) rfl rfl (by simp [conj]) rfl rfl ?_
    refine goW (Base.all_ok _) [(12, 33)] 3000 rfl (by simp [conj, Fits_i64, isBo4, isPt23, isIf20] <;> omega) ?_
    refine run_tt (by simp <;> omega) ?_
    refine goW (Base.all_ok _) [(3, 25)] 3000 rfl ?_ ?_
    · clear ih
      simp [conj, Fits_i64, isBo4, isPt23, isIf20]
      omega
    refine run_to (pin0 w') [0, 1] rfl rfl ?_ (ih (k + 1) (by omega) (by omega))
    clear ih
    simp [conj, less_rfl, ren_gF]
    refine ⟨fun a => ?_, fun a _ => ?_⟩
    · rw [Bool.eq_iff_iff]
      simp [hK, ieq]
      omega
    · by_cases e : a = 4294967293 - (k : Int)
      · subst e
        simp [ieq, vK]
        congr 1
        omega
      · simp [ieq, e]
  clear ih
  obtain rfl : k = 1024 := by omega
  refine run_ff (by simp) ?_
  have g1 : 1 ≤ g := by omega
  have g2 : g ≤ 128 := by omega
  clear h1 h2 hk hlt
  refine goW (Base.all_ok _) [(38, 5)] 3000 rfl (by simp [conj, Fits_i64, isBo4, isPt23, isIf20] <;> omega) ?_
  refine run_tt (by simpa using g1) ?_
  refine goW (Base.all_ok _) [(38, 11)] 3000 rfl (by simp [conj, Fits_i64, isBo4, isPt23, isIf20] <;> omega) ?_
  refine run_tt (by simpa using g2) ?_
  refine goW (Base.all_ok _) [] 3000 rfl (by simp [conj, Fits_i64, isBo4, isPt23, isIf20] <;> omega) ?_
  refine run_mlenN (keysK 1024) 1024 (by rw [keysK_len]; rfl) (keysK_nodup 1024) (keysK_mem 1024) rfl rfl (by simp [conj]) rfl rfl ?_
  refine goW (Base.all_ok _) [(38, 5)] 6000 rfl (by simp [conj, Fits_i64, isBo4, isPt23, isIf20] <;> omega) ?_
  refine run_tt (by simpa using g1) ?_
  refine goW (Base.all_ok _) [(38, 11)] 3000 rfl (by simp [conj, Fits_i64, isBo4, isPt23, isIf20] <;> omega) ?_
  refine run_tt (by simpa using g2) ?_
  refine goW (Base.all_ok _) [(3, 79)] 6000 rfl (by simp [conj, Fits_i64, isBo4, isPt23, isIf20] <;> omega) ?_
  refine run_tt rfl ?_
  refine run_to (sl' := [(79, .tt), (72, .tt), (0, i64 g), (3, .ptr 1 0), (8, i64 1099511627776), (2, .ff)]) (rest' := []) (hp' := [(1, gA 1099511562240 (gG g)), (0, .map .u32 (hK 1024) (.ints .i64 vK))]) (pin0 w') [0, 1] rfl rfl ?_ ?_
  · refine ⟨rfl, rfl, rfl, by decide, rfl, fun i k hi hk => ?_, fun a => rfl, fun a _ => rfl, trivial⟩
    rw [ren_gG]
    exact Less.of (gG_upd g i k hk)
  refine goW (Base.all_ok _) [(38, 5)] 3000 rfl (by simp [conj, Fits_i64, isBo4, isPt23, isIf20] <;> omega) ?_
  refine run_tt (by simpa using g1) ?_
  refine goW (Base.all_ok _) [(38, 11)] 3000 rfl (by simp [conj, Fits_i64, isBo4, isPt23, isIf20] <;> omega) ?_
  refine run_tt (by simpa using g2) ?_
  refine goW (Base.all_ok _) [(41, 20)] 3000 rfl (by simp [conj, Fits_i64, isBo4, isPt23, isIf20] <;> omega) ?_
  refine run_tt (by rw [if_pos rfl]; decide +kernel) ?_
  refine goW (Base.all_ok _) [(38, 5)] 3000 rfl (by simp [conj, Fits_i64, isBo4, isPt23, isIf20] <;> omega) ?_
  refine run_tt (by simpa using g1) ?_
  refine goW (Base.all_ok _) [(38, 11)] 3000 rfl (by simp [conj, Fits_i64, isBo4, isPt23, isIf20] <;> omega) ?_
  refine run_tt (by simpa using g2) ?_
  refine goW (Base.all_ok _) [(41, 20)] 3000 rfl (by simp [conj, Fits_i64, isBo4, isPt23, isIf20] <;> omega) ?_
  refine run_tt (by rw [if_pos rfl]; decide +kernel) ?_
  refine goW (Base.all_ok _) [(38, 5)] 3000 rfl (by simp [conj, Fits_i64, isBo4, isPt23, isIf20] <;> omega) ?_
  refine run_tt (by simpa using g1) ?_
  refine goW (Base.all_ok _) [(38, 11)] 3000 rfl (by simp [conj, Fits_i64, isBo4, isPt23, isIf20] <;> omega) ?_
  refine run_tt (by simpa using g2) ?_
  refine goW (Base.all_ok _) [(41, 20)] 3000 rfl (by simp [conj, Fits_i64, isBo4, isPt23, isIf20] <;> omega) ?_
  refine run_ff (by rw [if_pos rfl]; decide +kernel) ?_
  refine goW (Base.all_ok _) [(14, 22)] 3000 rfl (by simp [conj, Fits_i64, isBo4, isPt23, isIf20] <;> omega) ?_
  refine run_tt (by rw [if_pos rfl]; decide +kernel) ?_
  refine goW (Base.all_ok _) [] 6000 rfl (by simp [conj, Fits_i64, isBo4, isPt23, isIf20] <;> omega) ?_
  exact fin rfl (by simp [conj]) rfl rfl
end Sx
