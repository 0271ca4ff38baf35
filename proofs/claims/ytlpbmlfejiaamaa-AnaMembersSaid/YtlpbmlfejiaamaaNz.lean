/- The reference of chapter 44: Find. Conditions: as each theorem says. -/
import Derived.Test.YtlpbmlfejiaamaaNy
set_option linter.unusedSimpArgs false
set_option linter.unusedVariables false
namespace Sx
open Go Go.Proofs
set_option maxRecDepth 100000
set_option pp.deepTerms true
set_option pp.maxSteps 10000000
theorem mem_grp (s : GS) (hs : GOk s) (l : List Int) (hk : KeysOf s.h l) (nm g : Int) (hg : 1 ≤ g) : nm ∈ mem s g l ↔ grp s nm = g := by
  unfold mem memP
  rw [List.mem_filter, hk.2]
  simp only [decide_eq_true_eq]
  refine ⟨fun h => h.2, fun h => ⟨?_, h⟩⟩
  cases hh : s.h nm with
  | true => rfl
  | false => exfalso; unfold grp at h; rw [hh] at h; simp at h; omega
theorem findR_hck (K : Kn) (s : GS) (hs : GOk s) (l : List Int) (hk : KeysOf s.h l) (hl : l.length < 129) (vL : Value) (V : Nat → Value) (hR : ROK K s l vL V) (nm : Int) : HCK Try.prog K 70 [.agg [.val vL, i64 s.now], u32 nm] [] [] 0 (fun _ : Unit => True) (fun _ => ⟨i64 (grp s nm), [], 0⟩) := by
  have hn0 := hs.n0
  have hn1 := hs.n1
  have hM := hR.m
  refine hck_openA hR.g (by decide) rfl (fun off => ?_)
  have hn : (s.n.toNat : Int) = s.n := by omega
  generalize s.n.toNat = n at hM hn
  refine hck_of_run Try.func70 rfl (fun B hB hK hpin => ?_)
  refine goL hB rfl rfl (by simp [conj]) ?_
  refine run_loop ?_
  refine run_inv (ι := Nat) hpin (fun j => j ≤ n ∧ ∀ a : Nat, a < j → nm ∉ mem s ((a : Int) + 1) l) (fun j => n - j) (fun j => [(5, i64 j), (2, .ptr 1 0), (1, u32 nm)]) (fun _ => []) (fun _ => [(1, .cells [.sq 0 off 0 4 n .no, i64 s.now] 37)]) 2 0 ⟨Nat.zero_le _, fun a ha => absurd ha (Nat.not_lt_zero _)⟩ [0, 1] rfl rfl (by simp [conj, less_rfl, ren_rrow]) ?_
  rintro j ⟨hj, hno⟩ ih
  refine goL hB rfl rfl (by simp [conj]) ?_
  refine run_cond rfl (fun hh => ?_) (fun hh => ?_)
  · have hj1 : j < n := by simpa using hh
    have ih := ih (j + 1)
    refine goL hB rfl rfl (by simp [conj]) ?_
    refine run_loop ?_
    refine run_inv (ι := Nat) hpin (fun k => k ≤ (mem s ((j : Int) + 1) l).length ∧ ∀ a : Nat, a < k → (mem s ((j : Int) + 1) l).getD a 0 ≠ nm) (fun k => (mem s ((j : Int) + 1) l).length - k) (fun k => [(6, i64 k), (5, i64 j), (2, .ptr 1 0), (1, u32 nm)]) (fun _ => []) (fun _ => [(1, .cells [.sq 0 off 0 4 n .no, i64 s.now] 37)]) 2 0 ⟨Nat.zero_le _, fun a ha => absurd ha (Nat.not_lt_zero _)⟩ [0, 1] rfl rfl (by simp [conj, less_rfl, ren_rrow]) ?_
    rintro k ⟨hk1, hkn⟩ ihk
    have e0 : 0 + ((j : Nat) : Int).toNat = j := by omega
    have hlen : (mem s ((j : Int) + 1) l).length ≤ l.length := List.length_filter_le _ _
    refine goL hB rfl rfl (by simp [conj]; omega) ?_
    rw [e0]
    refine run_open hK 20 (hM j hj1) (by decide) rfl (fun off2 => ?_)
    refine goL hB rfl rfl (by simp [conj]) ?_
    refine run_cond rfl (fun hh2 => ?_) (fun hh2 => ?_)
    · have hk2 : k < (mem s ((j : Int) + 1) l).length := by simpa using hh2
      refine goL hB rfl rfl (by simp [conj]; omega) ?_
      rw [e0]
      refine run_open hK 30 (hM j hj1) (by decide) rfl (fun off3 => ?_)
      have e3 : 0 + ((k : Nat) : Int).toNat = k := by omega
      refine goL hB rfl rfl (by simp [conj]; omega) ?_
      rw [e3]
      refine run_cond rfl (fun hq => ?_) (fun hq => ?_)
      · clear ihk ih
        have hq : (mem s ((j : Int) + 1) l).getD k 0 = nm := by simpa using hq
        have hin : nm ∈ mem s ((j : Int) + 1) l := by
          rw [← hq, List.getD_eq_getElem?_getD, List.getElem?_eq_getElem hk2]; exact List.getElem_mem hk2
        have hg := (mem_grp s hs l hk nm _ (by omega)).1 hin
        refine goL hB rfl rfl (by simp [conj, Fits_i64]; omega) ?_
        refine run_close (.inl rfl) ?_
        refine run_close (.inl rfl) ?_
        rw [hg]
        refine run_retC hpin () trivial [0] rfl rfl (by simp [conj]) rfl ?_
        simp [conj, less_rfl, ren_rrow]
      · clear ih
        have hq : ¬ (mem s ((j : Int) + 1) l).getD k 0 = nm := by simpa using hq
        have ihk := ihk (k + 1) ⟨by omega, fun a ha => by
          by_cases e : a = k
          · subst e; exact hq
          · exact hkn a (by omega)⟩ (by omega)
        refine goL hB rfl rfl (by simp [conj, Fits_i64]; omega) ?_
        refine run_close (.inl rfl) ?_
        refine run_close (.inl rfl) ?_
        refine run_back ?_
        refine run_to hpin [0, 1] rfl rfl ?_ ihk
        clear ihk
        simp [conj, less_rfl, ren_rrow]
    · clear ihk
      have hk3 : k = (mem s ((j : Int) + 1) l).length := by simp at hh2; omega
      have ih := ih ⟨hj1, fun a ha => by
        by_cases e : a = j
        · subst e
          intro hin
          obtain ⟨b, hb, e2⟩ := List.getElem_of_mem hin
          refine hkn b (by omega) ?_
          rw [List.getD_eq_getElem?_getD, List.getElem?_eq_getElem hb]; exact e2
        · exact hno a (by omega)⟩ (by omega)
      refine goL hB rfl rfl (by simp [conj, Fits_i64]; omega) ?_
      refine run_close (.inl rfl) ?_
      refine run_back ?_
      refine run_to hpin [0, 1] rfl rfl ?_ ih
      clear ih
      simp [conj, less_rfl, ren_rrow]
  · clear ih
    have hjn : j = n := by simp at hh; omega
    have hg : grp s nm = 0 := by
      cases hh : s.h nm with
      | false => unfold grp; rw [hh]; rfl
      | true =>
        exfalso
        obtain ⟨v1, v2⟩ := hs.v0 nm hh
        have e : (((s.v nm - 1).toNat : Nat) : Int) + 1 = s.v nm := by omega
        refine hno (s.v nm - 1).toNat (by omega) ?_
        rw [e, mem_grp s hs l hk nm _ v1]
        unfold grp; rw [hh]; rfl
    refine goL hB rfl rfl (by simp [conj]) ?_
    rw [hg]
    refine run_retC hpin () trivial [0] rfl rfl (by simp [conj]) rfl ?_
    simp [conj, less_rfl, ren_rrow]
end Sx
