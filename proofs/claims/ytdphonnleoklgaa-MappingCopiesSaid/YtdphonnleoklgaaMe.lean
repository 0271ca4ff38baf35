/- few; a slice of slices that is only read. Conditions: as each theorem says. -/
import Derived.Test.YtdphonnleoklgaaMd
set_option linter.unusedSimpArgs false
set_option linter.unusedVariables false
namespace Sx
open Go Go.Proofs
set_option maxRecDepth 100000
/-- The slices. -/
def valR (V : Nat → Value) : Nat → Nat → SV := fun i _ => .val (V i)
theorem ren_valR (nx : Nat) (sg : List Nat) (V : Nat → Value) (i j : Nat) : ren nx sg (valR V i j) = valR V i j := by simp only [valR, ren, renF, id]
abbrev KIn (K : Kn) (m : Nat) (V : Nat → Value) (E : Nat → Ld) : Prop := ∀ i, i < m → Froz K (V i) (E i).length 2 (ldr (E i))
abbrev inRo (off m : Nat) (V : Nat → Value) : Hp := [(0, .row off m m 1 (valR V) anyTy)]
def fewB (m : Nat) (E : Nat → Ld) (most : Int) : Bool := decide ((m : Int) ≤ most) && (List.range m).all fun i => decide ((E i).length ≤ 20)
theorem fewB_iff {m : Nat} {E : Nat → Ld} {most : Int} : fewB m E most = true ↔ (m : Int) ≤ most ∧ ∀ i, i < m → (E i).length ≤ 20 := by
  simp [fewB]
theorem few_hc (K : Kn) (off m : Nat) (V : Nat → Value) (E : Nat → Ld) (hE : KIn K m V E) (most : Int) (hm : most < 1000000) : HCX Try.prog K M0 6 [.sq 0 off 0 1 m .no, i64 most] [] (inRo off m V) 1 (fun (_ : Unit) K' => K' = K) (fun _ => ⟨.sb (fewB m E most), [], 1⟩) := by
  refine hcx_of_run Try.func6 rfl (fun B hB hK hpin => ?_)
  have hF : Fz B K M0 B K := .refl hB hK
  refine goM hB rfl rfl (by simp [conj]) ?_
  refine run_cond rfl (fun h => ?_) (fun h => ?_)
  · refine goM hB rfl rfl (by simp [conj]) ?_
    refine run_retF hF hpin () rfl [0] rfl rfl (by simp [conj]) rfl ?_
    simp at h
    simp [conj, less_rfl, ren_valR, fewB]
    omega
  have h0 : (m : Int) ≤ most := by simp at h; omega
  refine goM hB rfl rfl (by simp [conj]) ?_
  refine run_loop ?_
  refine run_inv (ι := Nat) hpin (fun i => i ≤ m ∧ ∀ j, j < i → (E j).length ≤ 20) (fun i => m - i) (fun i => [(5, i64 i), (0, .sq 0 off 0 1 m .no), (4, .ff)]) (fun _ => []) (fun _ => []) 1 0 ⟨Nat.zero_le _, fun j hj => absurd hj (Nat.not_lt_zero _)⟩
    [0] rfl rfl (by simp [conj, less_rfl, ren_valR]) ?_
  rintro i ⟨h1, h2⟩ ih
  refine goM hB rfl rfl (by simp [conj]) ?_
  refine run_cond rfl (fun h => ?_) (fun h => ?_)
  · have hi : i < m := by simpa using h
    refine goM hB rfl rfl (by simp [conj]; omega) ?_
    refine run_open hK 19 (show Froz K (V (0 + (i : Int).toNat)) (E i).length 2 (ldr (E i)) by simpa using hE i hi) (by decide) rfl (fun off2 => ?_)
    refine goM hB rfl rfl (by simp [conj]) ?_
    refine run_cond rfl (fun hq => ?_) (fun hq => ?_)
    · clear ih
      refine goM hB rfl rfl (by simp [conj]) ?_
      refine run_close (.inl rfl) ?_
      refine run_retF hF hpin () rfl [0] rfl rfl (by simp [conj]) rfl ?_
      have : fewB m E most = false := by
        cases hb : fewB m E most with
        | false => rfl
        | true =>
          have := (fewB_iff.1 hb).2 i hi
          simp at hq; omega
      simp [conj, less_rfl, ren_valR, this]
    · have ih := ih (i + 1) ⟨by omega, fun j hj => by
        rcases Nat.lt_or_ge j i with q | q
        · exact h2 j q
        · rw [show j = i by omega]; simp at hq; omega⟩ (by omega)
      refine goM hB rfl rfl (by simp [conj, Fits_i64]; omega) ?_
      refine run_close (.inl rfl) ?_
      refine run_back ?_
      refine run_to hpin [0] rfl rfl ?_ ih
      clear ih
      simp [conj, less_rfl, ren_valR]
  · clear ih
    have : i = m := by simp at h; omega
    subst this
    refine goM hB rfl rfl (by simp [conj]) ?_
    refine run_retF hF hpin () rfl [0] rfl rfl (by simp [conj]) rfl ?_
    have := fewB_iff.2 ⟨h0, h2⟩
    simp [conj, less_rfl, ren_valR, this]
end Sx
