/- read, Entries, same. Conditions: as each theorem says. -/
import Derived.Test.YtdphonnleoklgaaMh
set_option linter.unusedSimpArgs false
set_option linter.unusedVariables false
namespace Sx
open Go Go.Proofs
set_option maxRecDepth 100000
def rdN (n : Nat) (most : Int) : Nat := if most ≤ 1 then min n 1 else min n most.toNat
structure RdOk (sec : Bool) (A C : List Int) (Z : Ld) : Prop where
  a : A.length = Z.length
  c : C.length = Z.length
  z : ∀ i, i < Z.length → (Z.getD i (0, 0)).1 = (if sec = true then A.getD i 0 else C.getD i 0) ∧ (Z.getD i (0, 0)).2 = if sec = true then C.getD i 0 else A.getD i 0
theorem rdOk_t (Z : Ld) : RdOk true (Z.map (·.1)) (Z.map (·.2)) Z := ⟨by simp, by simp, fun i hi => by simp [hi]⟩
theorem rdOk_f (Z : Ld) : RdOk false (Z.map (·.2)) (Z.map (·.1)) Z := ⟨by simp, by simp, fun i hi => by simp [hi]⟩
set_option maxHeartbeats 4000000 in
theorem read_hc (sec : Bool) (A C : List Int) (Z : Ld) (hz : RdOk sec A C Z) (hn : Z.length < 100000) (most : Int) :
    HC Try.prog 23 [.clo (.func 38) [] [.ptr 0 0, .ptr 1 0], .sb sec, i64 most] (prN A C 0 1 2 3) [] 4 (fun _ : Unit => True)
      (fun _ => ⟨.sq 4 0 0 2 (rdN Z.length most) .own, prN A C 0 1 2 3 ++ [(4, .row 0 (rdN Z.length most) (rdN Z.length most) 2 (ldr Z) 54)], 5⟩) := by
  refine hc_of_run Try.func23 rfl (fun B hB hpin => ?_)
  refine goH hB rfl rfl (by simp [conj]) ?_
  refine run_range named hB rfl rfl (by simp [conj]) rfl rfl rfl rfl ?_
  intro D l'
  have hB1 : (B.pin2 7 D l').ok := Base.pin2_ok hB
  have hpin1 : PinTo (B.pin2 7 D l') 9 := hpin.pin2 (by omega)
  refine goH hB1 rfl rfl (by simp [conj]) ?_
  refine run_loop ?_
  have hA := hz.a
  have hC := hz.c
  refine run_invK (ι := Nat) hpin1 (fun j => j ≤ Z.length ∧ (j = 0 ∨ (j : Int) < most)) (fun j => Z.length - j)
    (fun j => [(0, .clo (.yield l') [] []), (1, .ptr 0 0), (2, .ptr 1 0), (6, .sq 2 0 0 1 A.length .own), (7, i64 A.length), (8, i64 j)])
    (fun _ => [[(4, .ptr 4 0), (5, .ptr 5 0), (7, .ptr 6 0)]]) [7, 8]
    (fun j => prN A C 0 1 2 3 ++ [(4, .cells [.sb sec] 4), (5, .cells [i64 most] 3), (6, .cells [.sq 9 0 0 2 j .own] 31), (9, .row 0 j j 2 (ldr Z) 54)]) 10 0
    ⟨Nat.zero_le _, .inl rfl⟩ [0, 1, 2, 3, 4, 5, 6, 7, 8, 9] rfl rfl (by simp [conj, less_rfl, ren_rowL, renR_rowL]) ?_
  rintro j ⟨hj1, hj2⟩ ih
  refine goH hB1 rfl rfl (by simp [conj]) ?_
  refine run_cond rfl (fun h => ?_) (fun h => ?_)
  · have hi : j < Z.length := by simp at h; omega
    have hi1 : j < A.length := by omega
    have hi2 : j < C.length := by omega
    obtain ⟨z1, z2⟩ := hz.z j hi
    have ih := fun hh => ih (j + 1) ⟨by omega, .inr hh⟩ (by omega)
    refine goH hB1 rfl rfl (by simp [conj, hi1, hi2]) ?_
    refine run_yield 8 rfl rfl (by simp [conj]) rfl rfl rfl ?_
    refine goH hB1 rfl rfl (by simp [conj]) ?_
    refine run_begin 8 rfl rfl rfl rfl ?_
    refine goH hB1 rfl rfl (by simp [conj]) ?_
    refine run_cond rfl (fun hs => ?_) (fun hs => ?_)
    · have hs' : sec = false := by simpa using hs
      refine goH hB1 rfl rfl ?_ ?_
      · clear ih
        simp [conj, Fits_i64]
        omega
      have key : ∀ a k, a < j + 1 → k < 2 → ldr Z a k = appF (ldr Z) j (fun a k => [.int .i64 (C.getD j 0), .int .i64 (A.getD j 0)][a * 2 + k]?.getD .und) a k := fun a k ha hk => by
        unfold appF
        by_cases h : a < j
        · have hb : Nat.blt a j = true := by simpa [Nat.blt_eq] using h
          rw [hb]; rfl
        · have : a = j := by omega
          subst this
          have hb : Nat.blt a a = false := by
            cases hq : Nat.blt a a with
            | false => rfl
            | true => rw [Nat.blt_eq] at hq; omega
          rw [hb]
          match k, hk with
          | 0, _ => simp only [ldr, z1, hs', cond_false, Bool.false_eq_true, if_false]; simp
          | 1, _ => simp only [ldr, z2, hs', cond_false, Bool.false_eq_true, if_false]; simp
      refine run_cond rfl (fun hq => ?_) (fun hq => ?_)
      · have hq : most ≤ (j : Int) + 1 := by simpa using hq
        clear ih
        have hE : rdN Z.length most = j + 1 := by
          unfold rdN; split <;> omega
        refine run_round 8 (.exit _ _ rfl) rfl rfl rfl rfl ?_
        refine goH hB1 rfl rfl (by simp [conj]) ?_
        refine run_inR [] (.inl rfl) trivial rfl rfl (by simp [conj]) ?_
        refine run_endR 8 rfl rfl (by decide) rfl ?_
        refine goH hB1 rfl rfl (by simp [conj]) ?_
        rw [hE]
        refine run_retMC ((More.refl B).pin2 hpin (by omega)) hpin () trivial [7] [0, 1, 2, 3, 12] (.inr ⟨_, rfl⟩) ⟨rfl, rfl, trivial⟩ rfl rfl rfl (by simp [conj]) rfl ?_
        simp [conj, less_rfl, ren_ldr, ren_rowL, renR_rowL]
        try refine ⟨rfl, ?_⟩
        intro a k ha hk
        refine Less.of ?_
        rw [key a k ha hk]
        first | done | simp
      · have hq : (j : Int) + 1 < most := by simpa using hq
        refine goH hB1 rfl rfl (by simp [conj]) ?_
        refine run_round 8 .off rfl rfl rfl rfl ?_
        refine goH hB1 rfl rfl (by simp [conj, Fits_i64]; omega) ?_
        refine run_back ?_
        refine run_to hpin1 [0, 1, 2, 3, 4, 5, 6, 7, 8, 12] rfl rfl ?_ (ih (by simp; omega))
        clear ih
        simp [conj, less_rfl, ren_ldr, ren_rowL, renR_rowL]
        try refine ⟨rfl, ?_⟩
        intro a k ha hk
        refine Less.of ?_
        rw [key a k ha hk]
        first | done | simp
    · have hs' : sec = true := by simpa using hs
      refine goH hB1 rfl rfl ?_ ?_
      · clear ih
        simp [conj, Fits_i64]
        omega
      have key : ∀ a k, a < j + 1 → k < 2 → ldr Z a k = appF (ldr Z) j (fun a k => [.int .i64 (A.getD j 0), .int .i64 (C.getD j 0)][a * 2 + k]?.getD .und) a k := fun a k ha hk => by
        unfold appF
        by_cases h : a < j
        · have hb : Nat.blt a j = true := by simpa [Nat.blt_eq] using h
          rw [hb]; rfl
        · have : a = j := by omega
          subst this
          have hb : Nat.blt a a = false := by
            cases hq : Nat.blt a a with
            | false => rfl
            | true => rw [Nat.blt_eq] at hq; omega
          rw [hb]
          match k, hk with
          | 0, _ => simp only [ldr, z1, hs', cond_false, if_true]; simp
          | 1, _ => simp only [ldr, z2, hs', cond_false, if_true]; simp
      refine run_cond rfl (fun hq => ?_) (fun hq => ?_)
      · have hq : most ≤ (j : Int) + 1 := by simpa using hq
        clear ih
        have hE : rdN Z.length most = j + 1 := by
          unfold rdN; split <;> omega
        refine run_round 8 (.exit _ _ rfl) rfl rfl rfl rfl ?_
        refine goH hB1 rfl rfl (by simp [conj]) ?_
        refine run_inR [] (.inl rfl) trivial rfl rfl (by simp [conj]) ?_
        refine run_endR 8 rfl rfl (by decide) rfl ?_
        refine goH hB1 rfl rfl (by simp [conj]) ?_
        rw [hE]
        refine run_retMC ((More.refl B).pin2 hpin (by omega)) hpin () trivial [7] [0, 1, 2, 3, 12] (.inr ⟨_, rfl⟩) ⟨rfl, rfl, trivial⟩ rfl rfl rfl (by simp [conj]) rfl ?_
        simp [conj, less_rfl, ren_ldr, ren_rowL, renR_rowL]
        try refine ⟨rfl, ?_⟩
        intro a k ha hk
        refine Less.of ?_
        rw [key a k ha hk]
        first | done | simp
      · have hq : (j : Int) + 1 < most := by simpa using hq
        refine goH hB1 rfl rfl (by simp [conj]) ?_
        refine run_round 8 .off rfl rfl rfl rfl ?_
        refine goH hB1 rfl rfl (by simp [conj, Fits_i64]; omega) ?_
        refine run_back ?_
        refine run_to hpin1 [0, 1, 2, 3, 4, 5, 6, 7, 8, 12] rfl rfl ?_ (ih (by simp; omega))
        clear ih
        simp [conj, less_rfl, ren_ldr, ren_rowL, renR_rowL]
        try refine ⟨rfl, ?_⟩
        intro a k ha hk
        refine Less.of ?_
        rw [key a k ha hk]
        first | done | simp
  · have hi : j = Z.length := by simp at h; omega
    subst hi
    clear ih
    have hE : rdN Z.length most = Z.length := by
      unfold rdN; split <;> omega
    refine goH hB1 rfl rfl (by simp [conj]) ?_
    refine run_inR [] (.inl rfl) trivial rfl rfl (by simp [conj]) ?_
    refine run_endR 8 rfl rfl (by decide) rfl ?_
    refine goH hB1 rfl rfl (by simp [conj]) ?_
    rw [hE]
    refine run_retMC ((More.refl B).pin2 hpin (by omega)) hpin () trivial [7] [0, 1, 2, 3, 9] (.inr ⟨_, rfl⟩) ⟨rfl, rfl, trivial⟩ rfl rfl rfl (by simp [conj]) rfl ?_
    simp [conj, less_rfl, ren_ldr, ren_rowL, renR_rowL]
theorem ldr_app {Z : Ld} {j : Nat} (hj : j < Z.length) (a k : Nat) (ha : a < j + 1) (hk : k < 2) : ldr Z a k = appF (ldr Z) j (fun a k => [SV.int .i64 Z[j].1, SV.int .i64 Z[j].2][a * 2 + k]?.getD .und) a k := by
  unfold appF
  by_cases h : a < j
  · have hb : Nat.blt a j = true := by simpa [Nat.blt_eq] using h
    rw [hb]; rfl
  · have : a = j := by omega
    subst this
    have hb : Nat.blt a a = false := by
      cases hq : Nat.blt a a with
      | false => rfl
      | true => rw [Nat.blt_eq] at hq; omega
    rw [hb]
    have hg : Z.getD a (0, 0) = Z[a] := by simp [hj]
    match k, hk with
    | 0, _ => simp only [ldr, hg, cond_false]; simp
    | 1, _ => simp only [ldr, hg, cond_false]; simp
set_option maxHeartbeats 4000000 in
theorem entries_hc (S Bk P : Int) (L : Ld) (hL : MInv S (Bk * P) L) (hn : L.length < 100000) : HC Try.prog 24 [.ptr 0 0] (mpH S Bk P L) [] 4 (fun _ : Unit => True)
    (fun _ => ⟨.sq 4 0 0 2 L.length .own, mpH S Bk P L ++ [(4, .row 0 L.length L.length 2 (ldr L) 54)], 5⟩) := by
  refine hc_of_run Try.func24 rfl (fun B hB hpin => ?_)
  refine goH hB rfl rfl (by simp [conj]) ?_
  refine run_callC (all_hc S Bk P L hL hn) named hB [0, 1, 2, 3] rfl rfl rfl rfl (by simp [conj]) (by simp [conj, less_rfl, ren_cntF]) ?_
  rintro ⟨⟩ _
  refine ⟨show 4 ≤ 8 by omega, _, _, _, rfl, rfl, rfl, ?_⟩
  refine goH hB rfl rfl (by simp [conj]) ?_
  refine run_range named hB rfl rfl (by simp [conj]) rfl rfl rfl rfl ?_
  intro D l'
  have hB1 : (B.pin2 9 D l').ok := Base.pin2_ok hB
  have hpin1 : PinTo (B.pin2 9 D l') 11 := hpin.pin2 (by omega)
  refine goH hB1 rfl rfl (by simp [conj]) ?_
  refine run_loop ?_
  refine run_invK (ι := Nat) hpin1 (fun j => j ≤ L.length) (fun j => L.length - j)
    (fun j => [(0, .clo (.yield l') [] []), (1, .ptr 5 0), (2, .ptr 6 0), (6, .sq 7 0 0 1 L.length .own), (7, i64 L.length), (8, i64 j)])
    (fun _ => [[(2, .ptr 4 0)]]) [9, 10]
    (fun j => mpH S Bk P L ++ [(4, .cells [.sq 11 0 0 2 j .own] 31), (5, .cells [.sq 7 0 0 1 L.length .own] 59), (6, .cells [.sq 8 0 0 1 L.length .own] 59), (7, .row 0 L.length L.length 1 (rowL .i64 (L.map (·.1))) 3), (8, .row 0 L.length L.length 1 (rowL .i64 (L.map (·.2))) 3), (11, .row 0 j j 2 (ldr L) 54)]) 12 0
    (Nat.zero_le _) [0, 1, 2, 3, 4, 5, 6, 7, 8, 9, 10, 11] rfl rfl (by simp [conj, less_rfl, ren_rowL, renR_rowL, ren_cntF, renR_cntF]) ?_
  rintro j hj1 ih
  refine goH hB1 rfl rfl (by simp [conj]) ?_
  refine run_cond rfl (fun h => ?_) (fun h => ?_)
  · have hi : j < L.length := by simpa using h
    have ih := ih (j + 1) (by omega) (by omega)
    refine goH hB1 rfl rfl (by simp [conj, hi]) ?_
    refine run_yield 10 rfl rfl (by simp [conj]) rfl rfl rfl ?_
    refine goH hB1 rfl rfl (by simp [conj]) ?_
    refine run_begin 10 rfl rfl rfl rfl ?_
    refine goH hB1 rfl rfl ?_ ?_
    · clear ih
      simp [conj, Fits_i64]
      omega
    refine run_round 10 .off rfl rfl rfl rfl ?_
    refine goH hB1 rfl rfl (by simp [conj, Fits_i64]; omega) ?_
    refine run_back ?_
    refine run_to hpin1 [0, 1, 2, 3, 4, 5, 6, 7, 8, 9, 10, 13] rfl rfl ?_ ih
    clear ih
    simp [conj, less_rfl, ren_ldr, ren_rowL, renR_rowL, ren_cntF]
    try refine ⟨rfl, ?_⟩
    intro a k ha hk
    refine Less.of ?_
    rw [ldr_app hi a k ha hk]
    first | done | simp [hi]
  · have hi : j = L.length := by simp at h; omega
    subst hi
    clear ih
    refine goH hB1 rfl rfl (by simp [conj]) ?_
    refine run_inR [] (.inl rfl) trivial rfl rfl (by simp [conj]) ?_
    refine run_endR 10 rfl rfl (by decide) rfl ?_
    refine goH hB1 rfl rfl (by simp [conj]) ?_
    refine run_retMC ((More.refl B).pin2 hpin (by omega)) hpin () trivial [9] [0, 1, 2, 3, 11] (.inr ⟨_, rfl⟩) ⟨rfl, rfl, trivial⟩ rfl rfl rfl (by simp [conj]) rfl ?_
    simp [conj, less_rfl, ren_ldr, ren_rowL, renR_rowL, ren_cntF]
end Sx
