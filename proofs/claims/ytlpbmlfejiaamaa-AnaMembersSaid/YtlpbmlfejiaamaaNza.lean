/- The reference of chapter 44: set. Conditions: as each theorem says. -/
import Derived.Test.YtlpbmlfejiaamaaNz
set_option linter.unusedSimpArgs false
set_option linter.unusedVariables false
namespace Sx
open Go Go.Proofs
set_option maxRecDepth 100000
set_option pp.deepTerms true
set_option pp.maxSteps 10000000
theorem storable_rrow (s : GS) (V : Nat → Value) (i k : Nat) : storable (rrow s V i k) = true := by
  unfold rrow; split <;> rfl
theorem closed_rrow (s : GS) (V : Nat → Value) (i k : Nat) : (rrow s V i k).closed = true := by
  unfold rrow; split <;> rfl
theorem set_rrow (s : GS) (V : Nat → Value) (to fr ch : Int) (vm : Value) (i a b : Nat) (hb : b < 4) (g : Nat → Nat → SV) :
    updF (appF g 0 fun i k => rrow s V (0 + i) k) (0 + ((i : Nat) : Int).toNat) 0 (SV.agg [SV.int IntKind.i64 to, SV.int IntKind.i64 fr, SV.int IntKind.u64 ch, SV.val vm]).cells a b
      = rrow { s with to := fun a => if a = i then to else s.to a, fr := fun a => if a = i then fr else s.fr a, ch := fun a => if a = i then ch else s.ch a } (fun a => if a = i then vm else V a) a b := by
  have hz : Nat.blt a 0 = false := by
    cases h : Nat.blt a 0 with
    | false => rfl
    | true => rw [Nat.blt_eq] at h; omega
  have e0 : 0 + ((i : Nat) : Int).toNat = i := by omega
  rw [e0]
  match b, hb with
  | 0, _ => by_cases h : a = i <;> simp [rrow, updF, appF, hz, h, SV.cells]
  | 1, _ => by_cases h : a = i <;> simp [rrow, updF, appF, hz, h, SV.cells]
  | 2, _ => by_cases h : a = i <;> simp [rrow, updF, appF, hz, h, SV.cells]
  | 3, _ => by_cases h : a = i <;> simp [rrow, updF, appF, hz, h, SV.cells]
theorem setR_hcx (K : Kn) (s : GS) (vL : Value) (V : Nat → Value) (n : Nat) (hn : n ≤ 128) (hF : Froz K vL n 4 (rrow s V)) (now to fr ch : Int) (vm : Value) (hvm : vm.oneCell' = true) (i : Nat) (hi : i < n) :
    HCX Try.prog K M0 71 [.agg [.val vL, i64 now], i64 i, .agg [i64 to, i64 fr, u64 ch, .val vm]] [] [] 0
      (fun vL' K' => Froz K' vL' n 4 (rrow { s with to := fun a => if a = i then to else s.to a, fr := fun a => if a = i then fr else s.fr a, ch := fun a => if a = i then ch else s.ch a } (fun a => if a = i then vm else V a)))
      (fun vL' => ⟨.agg [.val vL', i64 now], [], 0⟩) := by
  refine hcx_of_run Try.func71 rfl (fun B hB hK hpin => ?_)
  have hF0 : Fz B K M0 B K := .refl hB hK
  refine goL hB rfl rfl (by simp [conj]) ?_
  refine run_open hK 9 hF (by decide) rfl (fun off => ?_)
  refine goL hB rfl rfl ?_ ?_
  · simp [conj]
    exact ⟨hi, by omega, by omega, fun a b _ _ => storable_rrow s V a b⟩
  refine run_close (.inl rfl) ?_
  refine run_freezeB (L := 4 + 1) (off := 0) (sz := 4) (m := 0 + n) (ap := .own) hB hK 2 0 rfl rfl rfl rfl (Nat.le_refl _) (fun a b _ hb => by rw [set_rrow _ _ _ _ _ _ _ _ _ hb]; exact closed_rrow _ _ _ _) rfl (fun _ => rfl) (fun _ => rfl) ?_
  intro v B2 K2 hv hF2 hp2
  refine run_retF hF2 (hpin.fz hF2 hp2) v ?_ [] rfl rfl (by simp [conj]) rfl ?_
  · rw [Nat.zero_add] at hv
    exact hv.congr fun a b _ hb => (set_rrow _ _ _ _ _ _ _ _ _ hb _).symm
  · simp [conj]
end Sx
