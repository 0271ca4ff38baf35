/- The examples of the chapter, plainly. Conditions: as each theorem says. -/
import Derived.Test.YtdjckiilfplnfaaJya
set_option linter.unusedSimpArgs false
set_option linter.unusedVariables false
namespace Sx
open Go Go.Proofs
set_option maxRecDepth 100000
set_option pp.deepTerms true
set_option pp.maxSteps 10000000
/-- The vectors that are possible before an epoch, as a list. -/
def eFS (H : Hi) (u : Int) : Nat → List (List Int)
  | 0 => [zV]
  | e + 1 => (eFS H u e).flatMap fun v => (aftL (ptE H u e) (lenE H u e) (decide (e = H.nc)) v).map (·.1)
theorem lget_some {α : Type} [DecidableEq α] (L : List (α × Bool)) (a : α) : (lget L a).isSome = true ↔ a ∈ L.map (·.1) := by
  induction L with
  | nil => simp [lget]
  | cons p L ih =>
    obtain ⟨x, b⟩ := p
    unfold lget
    by_cases h : x = a
    · subst h; simp
    · have h2 : ¬ a = x := fun q => h q.symm
      simp [h, h2, ih]
theorem eFS_iff (H : Hi) (u : Int) : ∀ (e : Nat) (v : List Int), v ∈ eFS H u e ↔ FS H u e v
  | 0, v => by unfold eFS; rw [List.mem_singleton]; rfl
  | e + 1, v => by
    unfold eFS
    rw [List.mem_flatMap]
    show _ ↔ ∃ v', FS H u e v' ∧ _
    constructor
    · rintro ⟨x, h1, h2⟩
      exact ⟨x, (eFS_iff H u e x).1 h1, (lget_some _ _).2 h2⟩
    · rintro ⟨x, h1, h2⟩
      exact ⟨x, (eFS_iff H u e x).2 h1, (lget_some _ _).1 h2⟩
theorem ex_true {H : Hi} {n : Nat} (h : ∀ u, u < n → SomeF H u) (b : Bool) (k : Int) (g : EX H n b k) : b = true ∧ k = 0 := by
  rcases g with ⟨h1, h2, _⟩ | ⟨_, k', _, h3, h4, _⟩
  · exact ⟨h1, h2⟩
  · exact absurd (h k' h3) h4
theorem ex_zero {H : Hi} {n : Nat} (hn : 0 < n) (h : ¬ SomeF H 0) (b : Bool) (k : Int) (g : EX H n b k) : b = false ∧ k = 0 := by
  rcases g with ⟨_, _, h3⟩ | ⟨h1, k', h2, _, _, h5⟩
  · exact absurd (h3 0 hn) h
  · refine ⟨h1, ?_⟩
    rcases Nat.eq_zero_or_pos k' with e | e
    · rw [h2, e]; rfl
    · exact absurd (h5 0 e) h
theorem somef_of {H : Hi} {u : Nat} (h : eFS H u (H.nc + 1) ≠ []) : SomeF H u := by
  obtain ⟨v, hv⟩ := List.exists_mem_of_ne_nil _ h
  exact ⟨v, (eFS_iff H u _ v).1 hv⟩
theorem somef_not {H : Hi} {u : Nat} (h : eFS H u (H.nc + 1) = []) : ¬ SomeF H u := fun ⟨v, hv⟩ => by
  have := (eFS_iff H u _ v).2 hv
  rw [h] at this; cases this
instance (n : Nat) (a b : List Int) : Decidable (ltV n a b) := by unfold ltV; infer_instance
theorem fins_eval {H : Hi} {u : Int} {Y : List (List Int)} (h : Y.Pairwise (ltV H.unit.toNat)) (h1 : ∀ v ∈ Y, v ∈ eFS H u (H.nc + 1)) (h2 : ∀ v ∈ eFS H u (H.nc + 1), v ∈ Y) : FinS H u Y :=
  ⟨h, fun v => ⟨fun q => (eFS_iff H u _ v).1 (h1 v q), fun q => h2 v ((eFS_iff H u _ v).2 q)⟩⟩
def mkO (k b e : Int) (l : List Int) : HO := ⟨k, 0, l.length, fun i => l.getD i 0, b, e, false⟩
def mkH (cuts : List Int) (ops : List HO) : Hi := ⟨2, 4, ops.length, fun i => ops.getD i (mkO 0 0 0 []), cuts.length, fun i => cuts.getD i 0⟩
def h1 : Hi := mkH [] [mkO 1 0 1 [1, 2], mkO 0 2 3 [1, 2]]
def h2 : Hi := mkH [] [mkO 1 0 (-1) [1, 2], mkO 0 2 3 [1, 0]]
def h3 : Hi := mkH [2] [mkO 1 0 1 [1]]
def h4 : Hi := mkH [4] [mkO 1 0 1 [1], mkO 2 2 3 []]
def vec2 (a b : Int) : List Int := [a, b, 0, 0, 0, 0, 0, 0]
/-- What says wants to know of a history. -/
structure SaysOK (H : Hi) (is : Bool) (Y : List (List Int)) : Prop where
  u : H.unit = 2
  b : H.blocks = 4
  v : VHi H
  nc : H.nc ≤ 24
  long : ∀ u, u < 2 → ∀ e, e ≤ H.nc → lenE H (u : Nat) e ≤ 12
  vf : ∀ i, i < H.m → ∀ k, k < (H.op i).n → Fits .i64 ((H.op i).v k)
  pw : (H.m + 1) ^ H.unit.toNat ≤ 1000000000000
  ex : ∀ b k, EX H (nU H) b k → b = is ∧ k = 0
  fin : FinS H (0 : Nat) Y
theorem eF10 : eFS h1 (0 : Nat) 1 = [vec2 1 2] := by kernel_rfl
theorem eF11 : eFS h1 (1 : Nat) 1 = [vec2 0 0] := by kernel_rfl
theorem eF20 : eFS h2 (0 : Nat) 1 = [] := by kernel_rfl
theorem eF31 : eFS h3 (1 : Nat) 2 = [vec2 0 0] := by kernel_rfl
theorem eF40 : eFS h4 (0 : Nat) 2 = [vec2 1 0] := by kernel_rfl
theorem eF41 : eFS h4 (1 : Nat) 2 = [vec2 0 0] := by kernel_rfl

theorem t3 : eFS h3 (0 : Nat) 2 = [vec2 1 0, vec2 0 0] := by kernel_rfl
theorem nU1 : nU h1 = 2 := by kernel_rfl
theorem nU2 : nU h2 = 2 := by kernel_rfl
theorem nU3 : nU h3 = 2 := by kernel_rfl
theorem nU4 : nU h4 = 2 := by kernel_rfl
theorem vh_of {H : Hi} (h1 : 1 ≤ H.unit) (h2 : H.unit ≤ 8) (h3 : 1 ≤ H.blocks) (h4 : H.blocks ≤ 4096) (h5 : H.blocks % H.unit = 0) (h6 : ∀ i, i < H.nc → 0 ≤ H.c i) (h7 : ∀ i, i < H.nc → i + 1 < H.nc → H.c i < H.c (i + 1)) (h8 : ∀ i, i < H.m → VOp H (H.op i)) : VHi H := ⟨h1, h2, h3, h4, h5, h6, fun i hi => h7 i (by omega) hi, h8⟩
theorem vh1 : VHi h1 := vh_of (by decide) (by decide) (by decide) (by decide) (by decide) (by decide) (by decide) (by decide +kernel)
theorem vh2 : VHi h2 := vh_of (by decide) (by decide) (by decide) (by decide) (by decide) (by decide) (by decide) (by decide +kernel)
theorem vh3 : VHi h3 := vh_of (by decide) (by decide) (by decide) (by decide) (by decide) (by decide) (by decide) (by decide +kernel)
theorem vh4 : VHi h4 := vh_of (by decide) (by decide) (by decide) (by decide) (by decide) (by decide) (by decide) (by decide +kernel)
theorem says1 : SaysOK h1 true [vec2 1 2] where
  u := rfl
  b := rfl
  v := vh1
  nc := by decide
  long := by decide +kernel
  vf := by
    intro i hi k hk
    have : ∀ i, i < h1.m → ∀ k, k < (h1.op i).n → -9223372036854775808 ≤ (h1.op i).v k ∧ (h1.op i).v k ≤ 9223372036854775807 := by decide +kernel
    exact (Fits_i64 _).2 (this i hi k hk)
  pw := by decide
  ex := fun b k => by
    rw [nU1]
    exact ex_true (fun u hu => by
      rcases u with _ | _ | u
      · exact somef_of (by show eFS h1 (0 : Nat) 1 ≠ []; rw [eF10]; simp)
      · exact somef_of (by show eFS h1 (1 : Nat) 1 ≠ []; rw [eF11]; simp)
      · omega) b k
  fin := fins_eval (by decide +kernel) (by show ∀ v ∈ _, v ∈ eFS h1 (0 : Nat) 1; rw [eF10]; exact fun v h => h) (by show ∀ v ∈ eFS h1 (0 : Nat) 1, v ∈ _; rw [eF10]; exact fun v h => h)
theorem says2 : SaysOK h2 false [] where
  u := rfl
  b := rfl
  v := vh2
  nc := by decide
  long := by decide +kernel
  vf := by
    intro i hi k hk
    have : ∀ i, i < h2.m → ∀ k, k < (h2.op i).n → -9223372036854775808 ≤ (h2.op i).v k ∧ (h2.op i).v k ≤ 9223372036854775807 := by decide +kernel
    exact (Fits_i64 _).2 (this i hi k hk)
  pw := by decide
  ex := fun b k => by
    rw [nU2]
    exact ex_zero (by decide) (somef_not (by show eFS h2 (0 : Nat) 1 = []; exact eF20)) b k
  fin := fins_eval (by decide +kernel) (by show ∀ v ∈ _, v ∈ eFS h2 (0 : Nat) 1; rw [eF20]; exact fun v h => h) (by show ∀ v ∈ eFS h2 (0 : Nat) 1, v ∈ _; rw [eF20]; exact fun v h => h)
theorem says3 : SaysOK h3 true [vec2 0 0, vec2 1 0] where
  u := rfl
  b := rfl
  v := vh3
  nc := by decide
  long := by decide +kernel
  vf := by
    intro i hi k hk
    have : ∀ i, i < h3.m → ∀ k, k < (h3.op i).n → -9223372036854775808 ≤ (h3.op i).v k ∧ (h3.op i).v k ≤ 9223372036854775807 := by decide +kernel
    exact (Fits_i64 _).2 (this i hi k hk)
  pw := by decide
  ex := fun b k => by
    rw [nU3]
    exact ex_true (fun u hu => by
      rcases u with _ | _ | u
      · exact somef_of (by show eFS h3 (0 : Nat) 2 ≠ []; rw [t3]; simp)
      · exact somef_of (by show eFS h3 (1 : Nat) 2 ≠ []; rw [eF31]; simp)
      · omega) b k
  fin := fins_eval (by decide +kernel) (by show ∀ v ∈ _, v ∈ eFS h3 (0 : Nat) 2; rw [t3]; simp) (by show ∀ v ∈ eFS h3 (0 : Nat) 2, v ∈ _; rw [t3]; simp)
theorem says4 : SaysOK h4 true [vec2 1 0] where
  u := rfl
  b := rfl
  v := vh4
  nc := by decide
  long := by decide +kernel
  vf := by
    intro i hi k hk
    have : ∀ i, i < h4.m → ∀ k, k < (h4.op i).n → -9223372036854775808 ≤ (h4.op i).v k ∧ (h4.op i).v k ≤ 9223372036854775807 := by decide +kernel
    exact (Fits_i64 _).2 (this i hi k hk)
  pw := by decide
  ex := fun b k => by
    rw [nU4]
    exact ex_true (fun u hu => by
      rcases u with _ | _ | u
      · exact somef_of (by show eFS h4 (0 : Nat) 2 ≠ []; rw [eF40]; simp)
      · exact somef_of (by show eFS h4 (1 : Nat) 2 ≠ []; rw [eF41]; simp)
      · omega) b k
  fin := fins_eval (by decide +kernel) (by show ∀ v ∈ _, v ∈ eFS h4 (0 : Nat) 2; rw [eF40]; exact fun v h => h) (by show ∀ v ∈ eFS h4 (0 : Nat) 2, v ∈ _; rw [eF40]; exact fun v h => h)
end Sx
