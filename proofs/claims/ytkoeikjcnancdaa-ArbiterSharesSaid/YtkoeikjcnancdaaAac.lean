/- ArbiterShares returns true. Conditions: as the theorem says. -/
import Derived.Test.YtkoeikjcnancdaaAaa
set_option linter.unusedSimpArgs false
set_option linter.unusedVariables false
namespace Sx
open Go Go.Proofs
set_option maxRecDepth 100000
abbrev u8v (x : Int) : SV := .int .u8 x
theorem ld_app (ld : Ld) (q v : Int) (a k : Nat) (ha : a < ld.length + 1) (hk : k < 2) : Less (ldr (ld ++ [(q, v)]) a k) (appF (ldr ld) ld.length (fun i_2 k => [i64 q, i64 v][i_2 * 2 + k]?.getD .und) a k) := by
  rw [app_ldr ld (q, v) _ _ rfl rfl a k ha hk]; exact (less_rfl _).2 trivial
theorem wrap_u8 {x : Int} (h : 0 ≤ x ∧ x ≤ 255) : IntKind.i64.wrap x = x := by
  simp [IntKind.wrap, IntKind.signed, IntKind.bits]; omega
def cntF (a b c : Int) : Nat → Nat := fun k => match k with
  | 0 => (a % 4).toNat
  | 1 => (b % 4).toNat
  | 2 => (c % 4).toNat
  | _ => 0
theorem cntF_lt (a b c : Int) (j : Nat) : cntF a b c j < 4 := by unfold cntF; split <;> omega
abbrev shH (b hi me lo a1 a2 a3 : Int) (s : ASt) (ld : Ld) : Hp := [(0, .cells [.tt, i64 b, i64 hi, i64 me, i64 lo] 23), (1, .cells [u8v a1, u8v a2, u8v a3] 24), (2, .cells (objL s 3) 70), (3, .map .i64 s.h (.ints .i64 s.v)), (4, .cells [i64 hi, i64 me, i64 lo] 30), (5, .row 0 ld.length ld.length 2 (ldr ld) 35)]
set_option maxHeartbeats 4000000 in
theorem shares_hc (w : Bool) (b hi me lo : Int) (a1 a2 a3 : Int) (r1 : 0 ≤ a1 ∧ a1 ≤ 255) (r2 : 0 ≤ a2 ∧ a2 ≤ 255) (r3 : 0 ≤ a3 ∧ a3 ≤ 255) (rounds : Int) :
    HC Try.prog 3 [cfgV w b hi me lo, .agg [u8v a1, u8v a2, u8v a3], i64 rounds] [] [] 0 (fun _ : Unit => True) (fun _ => ⟨.tt, [], 0⟩) := by
  refine hc_of_run Try.func3 rfl (fun B hB hpin => ?_)
  refine goK hB s2_ok rfl rfl (by simp [conj]) ?_
  cases hok : okC true b hi me lo with
  | false =>
    refine run_callC (new_bad true b hi me lo hok) named hB [] rfl rfl rfl rfl (by simp [conj]) (by simp [conj, less_rfl]) ?_
    rintro ⟨⟩ _
    refine ⟨show 0 ≤ 0 by omega, _, _, _, rfl, rfl, rfl, ?_⟩
    refine goK hB s2_ok rfl rfl (by simp [conj]) ?_
    refine run_condT rfl (by simp) ?_
    refine goK hB s2_ok rfl rfl (by simp [conj]) ?_
    refine run_callC known_hc named hB [] rfl rfl rfl rfl (by simp [conj]) (by simp [conj, less_rfl]) ?_
    rintro ⟨⟩ _
    refine ⟨show 0 ≤ 0 by omega, _, _, _, rfl, rfl, rfl, ?_⟩
    refine goK hB s2_ok rfl rfl (by simp [conj]) ?_
    exact run_retC hpin () trivial [] rfl rfl (by simp [conj]) rfl (by simp [conj, less_rfl])
  | true =>
  refine run_callC (new_ok true b hi me lo hok) named hB [] rfl rfl rfl rfl (by simp [conj]) (by simp [conj, less_rfl]) ?_
  rintro ⟨⟩ _
  refine ⟨show 0 ≤ 2 by omega, _, _, _, rfl, rfl, rfl, ?_⟩
  refine goK hB s2_ok rfl rfl (by simp [conj]) ?_
  refine run_cond rfl (fun hq => ?_) (fun hq => ?_)
  · refine goK hB s2_ok rfl rfl (by simp [conj]) ?_
    refine run_callC known_hc named hB [] rfl rfl rfl rfl (by simp [conj]) (by simp [conj, less_rfl]) ?_
    rintro ⟨⟩ _
    refine ⟨show 0 ≤ 0 by omega, _, _, _, rfl, rfl, rfl, ?_⟩
    refine goK hB s2_ok rfl rfl (by simp [conj]) ?_
    exact run_retC hpin () trivial [] rfl rfl (by simp [conj]) rfl (by simp [conj, less_rfl])
  have hw := ok_weights hok rfl
  have hb : 0 ≤ b ∧ b ≤ 128 := burst_range (by unfold okC at hok; simp at hok; exact hok.1)
  have hq : (hi ≤ 40 ∧ me ≤ 40 ∧ lo ≤ 40) ∧ 0 ≤ rounds ∧ rounds ≤ 5 := by simp at hq; omega
  obtain ⟨⟨q1, q2, q3⟩, ht0, ht1⟩ := hq
  have wh : 1 ≤ hi ∧ hi ≤ 40 := by omega
  have wm : 1 ≤ me ∧ me ≤ 40 := by omega
  have wl : 1 ≤ lo ∧ lo ≤ 40 := by omega
  -- BEGIN
  have hw1 : IntKind.i64.wrap a1 = a1 := wrap_u8 r1
  have hw2 : IntKind.i64.wrap a2 = a2 := wrap_u8 r2
  have hw3 : IntKind.i64.wrap a3 = a3 := wrap_u8 r3
  refine goK hB s2_ok rfl rfl (by simp [conj]) ?_
  refine run_loop ?_
  have hS0 : SSt b hi me lo (cntF a1 a2 a3) 0 0 (aNew true b hi me lo) [] [] := SSt.new _
  have hL0 : ([] : Ld).length ≤ 4 * 0 := Nat.le_refl _
  refine goK hB s2_ok rfl rfl (by simp [conj]) ?_
  refine run_condT rfl (by decide) ?_
  refine goK hB s2_ok rfl rfl (by simp [conj]) ?_
  refine run_loop ?_
  refine run_inv (ι := Nat × ASt × Ld × Ld) hpin (fun x => x.1 ≤ cntF a1 a2 a3 0 ∧ x.2.2.2.length ≤ 4 * 0 + x.1 ∧ SSt b hi me lo (cntF a1 a2 a3) 0 x.1 x.2.1 x.2.2.1 x.2.2.2) (fun x => cntF a1 a2 a3 0 - x.1)
    (fun x => [(2, i64 rounds), (4, .ptr 1 0), (7, .ptr 2 0), (9, .ptr 4 0), (10, .sq 5 0 0 2 x.2.2.2.length .own), (11, i64 (0)), (12, i64 0), (13, i64 x.1)]) (fun _ => [])
    (fun x => shH b hi me lo a1 a2 a3 x.2.1 x.2.2.2) 6 (0, (aNew true b hi me lo), [], []) ⟨Nat.zero_le _, hL0, hS0⟩
    [0, 1, 2, 3, 4, 5] rfl rfl (by simp [conj, less_rfl, ren_ldr, ren_nr]) ?_
  rintro ⟨i, s1, Q1, ld1⟩ ⟨h1, h2, h3⟩ ih
  dsimp only at h1 h2 h3
  have hc := cntF_lt a1 a2 a3 0
  refine goK hB s2_ok rfl rfl (by simp [conj, hw1, hw2, hw3]; omega) ?_
  refine run_cond rfl (fun h => ?_) (fun h => ?_)
  · have hi1 : i < cntF a1 a2 a3 0 := by simp [hw1, hw2, hw3] at h; simp [cntF]; omega
    obtain ⟨g1, g2⟩ := h3.add (by decide) (by omega) (cntF_lt a1 a2 a3)
    have ha := add0 s1 _ _ g1
    obtain ⟨s', hs'⟩ : ∃ s', s' = addS s1 (10 * (i : Int) + ((0 : Nat) : Int)) (((0 : Nat) : Int) + 1) := ⟨_, rfl⟩
    rw [← hs'] at ha g2
    refine goK hB s2_ok rfl rfl (by simp [conj, Fits_i64]; omega) ?_
    refine run_callC ha named hB [2, 3] rfl rfl rfl rfl (by simp [conj]) (by simp [conj, less_rfl, ren_nr, ren_ldr]) ?_
    rintro ⟨⟩ _
    refine ⟨show 2 ≤ 2 by omega, _, _, _, rfl, rfl, rfl, ?_⟩
    refine goK hB s2_ok rfl rfl (by simp [conj]) ?_
    refine run_condF rfl (by decide) ?_
    have ih := ih (i + 1, s', _, _) ⟨by show i + 1 ≤ _; omega, by simp; omega, g2⟩ (by show _ - (i + 1) < _ - i; omega)
    clear ha
    refine goK hB s2_ok rfl rfl (by simp [conj, Fits_i64]; omega) ?_
    refine run_back ?_
    refine run_to hpin [0, 1, 2, 3, 4, 7] rfl rfl ?_ ih
    clear ih
    simp [conj, less_rfl, ren_ldr, ren_nr]
    exact ld_app ld1 _ _
  · have hi1 : i = cntF a1 a2 a3 0 := by simp [hw1, hw2, hw3] at h; simp [cntF] at h1 ⊢; omega
    clear ih
    have hS1 : SSt b hi me lo (cntF a1 a2 a3) 1 0 s1 Q1 ld1 := by rw [hi1] at h3; exact h3.next
    have hL1 : ld1.length ≤ 4 * 1 := by omega
    clear h1 h2 h3 h hi1 hc
    apply run_share (B := B) (fun N TD => ⟨⟨fid 3, N, [(2, i64 rounds), (4, .ptr 1 0), (7, .ptr 2 0), (9, .ptr 4 0), (10, .sq 5 0 0 2 ld1.length .own), (11, i64 ((if 0 < cntF a1 a2 a3 0 then hi else 0))), (12, i64 1)], TD⟩, [], shH b hi me lo a1 a2 a3 s1 ld1, 6⟩)
    · intro next
      refine goK hB s2_ok rfl rfl (by simp [conj]; omega) ?_
      refine run_cond rfl (fun h => ?_) (fun h => ?_)
      · have hi1 : 0 < cntF a1 a2 a3 0 := by simp at h; simp [cntF]; omega
        refine goK hB s2_ok rfl rfl (by simp [conj, Fits_i64]; try (repeat' split); all_goals omega) ?_
        refine run_back ?_
        refine run_to hpin [0, 1, 2, 3, 4, 5] rfl rfl ?_ next
        simp [conj, less_rfl, ren_ldr, ren_nr, hi1]
      · have hi1 : ¬ 0 < cntF a1 a2 a3 0 := by simp at h; simp [cntF]; omega
        refine goK hB s2_ok rfl rfl (by simp [conj, Fits_i64]) ?_
        refine run_back ?_
        refine run_to hpin [0, 1, 2, 3, 4, 5] rfl rfl ?_ next
        simp [conj, less_rfl, ren_ldr, ren_nr, hi1]
    refine goK hB s2_ok rfl rfl (by simp [conj]) ?_
    refine run_condT rfl (by decide) ?_
    refine goK hB s2_ok rfl rfl (by simp [conj]) ?_
    refine run_loop ?_
    refine run_inv (ι := Nat × ASt × Ld × Ld) hpin (fun x => x.1 ≤ cntF a1 a2 a3 1 ∧ x.2.2.2.length ≤ 4 * 1 + x.1 ∧ SSt b hi me lo (cntF a1 a2 a3) 1 x.1 x.2.1 x.2.2.1 x.2.2.2) (fun x => cntF a1 a2 a3 1 - x.1)
      (fun x => [(2, i64 rounds), (4, .ptr 1 0), (7, .ptr 2 0), (9, .ptr 4 0), (10, .sq 5 0 0 2 x.2.2.2.length .own), (11, i64 ((if 0 < cntF a1 a2 a3 0 then hi else 0))), (12, i64 1), (13, i64 x.1)]) (fun _ => [])
      (fun x => shH b hi me lo a1 a2 a3 x.2.1 x.2.2.2) 6 (0, s1, Q1, ld1) ⟨Nat.zero_le _, hL1, hS1⟩
      [0, 1, 2, 3, 4, 5] rfl rfl (by simp [conj, less_rfl, ren_ldr, ren_nr]) ?_
    rintro ⟨i, s2, Q2, ld2⟩ ⟨h1, h2, h3⟩ ih
    dsimp only at h1 h2 h3
    have hc := cntF_lt a1 a2 a3 1
    refine goK hB s2_ok rfl rfl (by simp [conj, hw1, hw2, hw3]; omega) ?_
    refine run_cond rfl (fun h => ?_) (fun h => ?_)
    · have hi1 : i < cntF a1 a2 a3 1 := by simp [hw1, hw2, hw3] at h; simp [cntF]; omega
      obtain ⟨g1, g2⟩ := h3.add (by decide) (by omega) (cntF_lt a1 a2 a3)
      have ha := add0 s2 _ _ g1
      obtain ⟨s', hs'⟩ : ∃ s', s' = addS s2 (10 * (i : Int) + ((1 : Nat) : Int)) (((1 : Nat) : Int) + 1) := ⟨_, rfl⟩
      rw [← hs'] at ha g2
      refine goK hB s2_ok rfl rfl (by simp [conj, Fits_i64]; omega) ?_
      refine run_callC ha named hB [2, 3] rfl rfl rfl rfl (by simp [conj]) (by simp [conj, less_rfl, ren_nr, ren_ldr]) ?_
      rintro ⟨⟩ _
      refine ⟨show 2 ≤ 2 by omega, _, _, _, rfl, rfl, rfl, ?_⟩
      refine goK hB s2_ok rfl rfl (by simp [conj]) ?_
      refine run_condF rfl (by decide) ?_
      have ih := ih (i + 1, s', _, _) ⟨by show i + 1 ≤ _; omega, by simp; omega, g2⟩ (by show _ - (i + 1) < _ - i; omega)
      clear ha
      refine goK hB s2_ok rfl rfl (by simp [conj, Fits_i64]; omega) ?_
      refine run_back ?_
      refine run_to hpin [0, 1, 2, 3, 4, 7] rfl rfl ?_ ih
      clear ih
      simp [conj, less_rfl, ren_ldr, ren_nr]
      exact ld_app ld2 _ _
    · have hi1 : i = cntF a1 a2 a3 1 := by simp [hw1, hw2, hw3] at h; simp [cntF] at h1 ⊢; omega
      clear ih
      have hS2 : SSt b hi me lo (cntF a1 a2 a3) 2 0 s2 Q2 ld2 := by rw [hi1] at h3; exact h3.next
      have hL2 : ld2.length ≤ 4 * 2 := by omega
      clear h1 h2 h3 h hi1 hc
      apply run_share (B := B) (fun N TD => ⟨⟨fid 3, N, [(2, i64 rounds), (4, .ptr 1 0), (7, .ptr 2 0), (9, .ptr 4 0), (10, .sq 5 0 0 2 ld2.length .own), (11, i64 ((if 0 < cntF a1 a2 a3 0 then hi else 0) + (if 0 < cntF a1 a2 a3 1 then me else 0))), (12, i64 2)], TD⟩, [], shH b hi me lo a1 a2 a3 s2 ld2, 6⟩)
      · intro next
        refine goK hB s2_ok rfl rfl (by simp [conj]; omega) ?_
        refine run_cond rfl (fun h => ?_) (fun h => ?_)
        · have hi1 : 0 < cntF a1 a2 a3 1 := by simp at h; simp [cntF]; omega
          refine goK hB s2_ok rfl rfl (by simp [conj, Fits_i64]; try (repeat' split); all_goals omega) ?_
          refine run_back ?_
          refine run_to hpin [0, 1, 2, 3, 4, 5] rfl rfl ?_ next
          simp [conj, less_rfl, ren_ldr, ren_nr, hi1]
        · have hi1 : ¬ 0 < cntF a1 a2 a3 1 := by simp at h; simp [cntF]; omega
          refine goK hB s2_ok rfl rfl (by simp [conj, Fits_i64]) ?_
          refine run_back ?_
          refine run_to hpin [0, 1, 2, 3, 4, 5] rfl rfl ?_ next
          simp [conj, less_rfl, ren_ldr, ren_nr, hi1]
      refine goK hB s2_ok rfl rfl (by simp [conj]) ?_
      refine run_condT rfl (by decide) ?_
      refine goK hB s2_ok rfl rfl (by simp [conj]) ?_
      refine run_loop ?_
      refine run_inv (ι := Nat × ASt × Ld × Ld) hpin (fun x => x.1 ≤ cntF a1 a2 a3 2 ∧ x.2.2.2.length ≤ 4 * 2 + x.1 ∧ SSt b hi me lo (cntF a1 a2 a3) 2 x.1 x.2.1 x.2.2.1 x.2.2.2) (fun x => cntF a1 a2 a3 2 - x.1)
        (fun x => [(2, i64 rounds), (4, .ptr 1 0), (7, .ptr 2 0), (9, .ptr 4 0), (10, .sq 5 0 0 2 x.2.2.2.length .own), (11, i64 ((if 0 < cntF a1 a2 a3 0 then hi else 0) + (if 0 < cntF a1 a2 a3 1 then me else 0))), (12, i64 2), (13, i64 x.1)]) (fun _ => [])
        (fun x => shH b hi me lo a1 a2 a3 x.2.1 x.2.2.2) 6 (0, s2, Q2, ld2) ⟨Nat.zero_le _, hL2, hS2⟩
        [0, 1, 2, 3, 4, 5] rfl rfl (by simp [conj, less_rfl, ren_ldr, ren_nr]) ?_
      rintro ⟨i, s3, Q3, ld3⟩ ⟨h1, h2, h3⟩ ih
      dsimp only at h1 h2 h3
      have hc := cntF_lt a1 a2 a3 2
      refine goK hB s2_ok rfl rfl (by simp [conj, hw1, hw2, hw3]; omega) ?_
      refine run_cond rfl (fun h => ?_) (fun h => ?_)
      · have hi1 : i < cntF a1 a2 a3 2 := by simp [hw1, hw2, hw3] at h; simp [cntF]; omega
        obtain ⟨g1, g2⟩ := h3.add (by decide) (by omega) (cntF_lt a1 a2 a3)
        have ha := add0 s3 _ _ g1
        obtain ⟨s', hs'⟩ : ∃ s', s' = addS s3 (10 * (i : Int) + ((2 : Nat) : Int)) (((2 : Nat) : Int) + 1) := ⟨_, rfl⟩
        rw [← hs'] at ha g2
        refine goK hB s2_ok rfl rfl (by simp [conj, Fits_i64]; omega) ?_
        refine run_callC ha named hB [2, 3] rfl rfl rfl rfl (by simp [conj]) (by simp [conj, less_rfl, ren_nr, ren_ldr]) ?_
        rintro ⟨⟩ _
        refine ⟨show 2 ≤ 2 by omega, _, _, _, rfl, rfl, rfl, ?_⟩
        refine goK hB s2_ok rfl rfl (by simp [conj]) ?_
        refine run_condF rfl (by decide) ?_
        have ih := ih (i + 1, s', _, _) ⟨by show i + 1 ≤ _; omega, by simp; omega, g2⟩ (by show _ - (i + 1) < _ - i; omega)
        clear ha
        refine goK hB s2_ok rfl rfl (by simp [conj, Fits_i64]; omega) ?_
        refine run_back ?_
        refine run_to hpin [0, 1, 2, 3, 4, 7] rfl rfl ?_ ih
        clear ih
        simp [conj, less_rfl, ren_ldr, ren_nr]
        exact ld_app ld3 _ _
      · have hi1 : i = cntF a1 a2 a3 2 := by simp [hw1, hw2, hw3] at h; simp [cntF] at h1 ⊢; omega
        clear ih
        have hS3 : SSt b hi me lo (cntF a1 a2 a3) 3 0 s3 Q3 ld3 := by rw [hi1] at h3; exact h3.next
        have hL3 : ld3.length ≤ 4 * 3 := by omega
        clear h1 h2 h3 h hi1 hc
        apply run_share (B := B) (fun N TD => ⟨⟨fid 3, N, [(2, i64 rounds), (4, .ptr 1 0), (7, .ptr 2 0), (9, .ptr 4 0), (10, .sq 5 0 0 2 ld3.length .own), (11, i64 ((if 0 < cntF a1 a2 a3 0 then hi else 0) + (if 0 < cntF a1 a2 a3 1 then me else 0) + (if 0 < cntF a1 a2 a3 2 then lo else 0))), (12, i64 3)], TD⟩, [], shH b hi me lo a1 a2 a3 s3 ld3, 6⟩)
        · intro next
          refine goK hB s2_ok rfl rfl (by simp [conj]; omega) ?_
          refine run_cond rfl (fun h => ?_) (fun h => ?_)
          · have hi1 : 0 < cntF a1 a2 a3 2 := by simp at h; simp [cntF]; omega
            refine goK hB s2_ok rfl rfl (by simp [conj, Fits_i64]; try (repeat' split); all_goals omega) ?_
            refine run_back ?_
            refine run_to hpin [0, 1, 2, 3, 4, 5] rfl rfl ?_ next
            simp [conj, less_rfl, ren_ldr, ren_nr, hi1]
          · have hi1 : ¬ 0 < cntF a1 a2 a3 2 := by simp at h; simp [cntF]; omega
            refine goK hB s2_ok rfl rfl (by simp [conj, Fits_i64]) ?_
            refine run_back ?_
            refine run_to hpin [0, 1, 2, 3, 4, 5] rfl rfl ?_ next
            simp [conj, less_rfl, ren_ldr, ren_nr, hi1]
        refine goK hB s2_ok rfl rfl (by simp [conj]) ?_
        refine run_condF rfl (by decide) ?_
        refine goK hB s2_ok rfl rfl (by simp [conj]) ?_
        refine run_loop ?_
        have hF := hS3.fix hb wh wm wl
        have hR := hS3.start wh wm wl
        clear hS0 hS1 hS2 hS3 hL0 hL1 hL2
        generalize htot : totS hi me lo (cntF a1 a2 a3) = tot at *
        have ht3 : tot ≤ 120 := by rw [← htot]; unfold totS; (repeat' split) <;> omega
        refine run_inv (ι := Nat × ASt) hpin (fun x => (x.1 : Int) ≤ rounds ∧ RSt b hi me lo (cntF a1 a2 a3) Q3 ld3 x.2 0 0 0) (fun x => 5 - x.1)
          (fun x => [(2, i64 rounds), (4, .ptr 1 0), (7, .ptr 2 0), (9, .ptr 4 0), (10, .sq 5 0 0 2 ld3.length .own), (11, i64 tot), (15, i64 x.1)]) (fun _ => [])
          (fun x => shH b hi me lo a1 a2 a3 x.2 ld3) 6 (0, s3) ⟨ht0, hR⟩
          [0, 1, 2, 3, 4, 5] rfl rfl (by simp [conj, less_rfl, ren_ldr, ren_nr]; exact htot.symm) ?_
        rintro ⟨t, s⟩ ⟨h1, h2⟩ ih
        dsimp only at h1 h2
        refine goK hB s2_ok rfl rfl (by simp [conj]) ?_
        refine run_cond rfl (fun h => ?_) (fun h => ?_)
        · have ht : (t : Int) < rounds ∧ 0 < tot := by simpa using h
          refine goK hB s2_ok rfl rfl (by simp [conj]) ?_
          refine run_loop ?_
          refine run_inv (ι := ASt × Int × Int × Int) hpin (fun x => RSt b hi me lo (cntF a1 a2 a3) Q3 ld3 x.1 x.2.1 x.2.2.1 x.2.2.2 ∧ x.2.1 + x.2.2.1 + x.2.2.2 ≤ 160) (fun x => (tot - (x.2.1 + x.2.2.1 + x.2.2.2)).toNat)
            (fun x => [(2, i64 rounds), (4, .ptr 1 0), (7, .ptr 2 0), (9, .ptr 4 0), (10, .sq 5 0 0 2 ld3.length .own), (11, i64 tot), (15, i64 t), (16, .ptr 6 0), (17, i64 (x.2.1 + x.2.2.1 + x.2.2.2))]) (fun _ => [])
            (fun x => shH b hi me lo a1 a2 a3 x.1 ld3 ++ [(6, .cells [i64 x.2.1, i64 x.2.2.1, i64 x.2.2.2] 30)]) 7 (s, 0, 0, 0) ⟨h2, by show (0 : Int) + 0 + 0 ≤ 160; decide⟩
            [0, 1, 2, 3, 4, 5, 6] rfl rfl (by simp [conj, less_rfl, ren_ldr, ren_nr]) ?_
          clear h2 h h1
          rintro ⟨s, g1, g2, g3⟩ ⟨h2, h3⟩ jh
          dsimp only at h2 h3
          obtain ⟨p1, p2, p3⟩ := h2.p
          refine goK hB s2_ok rfl rfl (by simp [conj]) ?_
          refine run_cond rfl (fun h => ?_) (fun h => ?_)
          · clear ih
            have hlt : g1 + g2 + g3 < tot := by simpa using h
            obtain ⟨kk, ii, k1, k2, e1, e2, e3, e4, e5⟩ := h2.pick hF (by rw [htot]; exact hlt)
            have hp := pick_ok s (h2.cred hF) ld3 0 ld3.length (by omega) (lQ Q3 ld3) h2.k (lQ_keys h2.q h2.k)
            generalize pickR s (lQ Q3 ld3) (wv ld3) = z at hp e1 e2 e3 e4 e5
            obtain ⟨zq, zn, ze, zs⟩ := z
            dsimp only at hp e1 e2 e3 e4 e5
            subst e2
            have hkk : kk = 0 ∨ kk = 1 ∨ kk = 2 := by omega
            have hii : ii = 0 ∨ ii = 1 ∨ ii = 2 := by have := cntF_lt a1 a2 a3 kk; omega
            clear k1 k2
            rcases hkk with rfl | rfl | rfl <;> rcases hii with rfl | rfl | rfl
            all_goals
              simp at e1
              subst e1
              simp at e5
              have jh := jh (zs, _, _, _) ⟨e5, by dsimp only; omega⟩ (by dsimp only; omega)
              refine goK hB s2_ok rfl rfl (by simp [conj]) ?_
              refine run_callC hp named hB [2, 3, 5] rfl rfl rfl rfl (by simp [conj]) (by simp [conj, less_rfl, ren_nr, ren_ldr]) ?_
              rintro ⟨⟩ _
              refine ⟨show 3 ≤ 3 by omega, _, _, _, rfl, rfl, rfl, ?_⟩
              refine goK hB s2_ok rfl rfl (by simp [conj]) ?_
              refine run_condF rfl (by simp; omega) ?_
              refine goK hB s2_ok rfl rfl (by simp [conj, Fits_i64]; omega) ?_
              refine run_back ?_
              refine run_to hpin [0, 1, 2, 3, 4, 5, 6] rfl rfl ?_ jh
              clear jh
              simp [conj, less_rfl, ren_ldr, ren_nr]
              try omega
          · have hge : ¬ g1 + g2 + g3 < tot := by simpa using h
            clear jh
            obtain ⟨d1, d2, d3, d4, d5, d6, d7⟩ := h2.done hF (by rw [htot]; exact hge) (by rw [htot]; exact ht.2)
            have ih := ih (t + 1, s) ⟨by show ((t + 1 : Nat) : Int) ≤ rounds; omega, d7⟩ (by show 5 - (t + 1) < 5 - t; omega)
            have c1 : (0 < a1 % 4 → g1 = hi) ∧ (a1 % 4 = 0 → g1 = 0) := ⟨fun q => d1 (by simp [cntF]; omega), fun q => d4 (by simp [cntF]; omega)⟩
            have c2 : (0 < a2 % 4 → g2 = me) ∧ (a2 % 4 = 0 → g2 = 0) := ⟨fun q => d2 (by simp [cntF]; omega), fun q => d5 (by simp [cntF]; omega)⟩
            have c3 : (0 < a3 % 4 → g3 = lo) ∧ (a3 % 4 = 0 → g3 = 0) := ⟨fun q => d3 (by simp [cntF]; omega), fun q => d6 (by simp [cntF]; omega)⟩
            clear d1 d2 d3 d4 d5 d6 d7
            refine goK hB s2_ok rfl rfl (by simp [conj]) ?_
            refine run_loop ?_
            refine goK hB s2_ok rfl rfl (by simp [conj]) ?_
            refine run_condT rfl (by decide) ?_
            refine goK hB s2_ok rfl rfl (by simp [conj, Fits_i64] <;> omega) ?_
            refine run_condF rfl (by simp; omega) ?_
            refine goK hB s2_ok rfl rfl (by simp [conj, Fits_i64] <;> omega) ?_
            refine run_back ?_
            refine goK hB s2_ok rfl rfl (by simp [conj]) ?_
            refine run_condT rfl (by decide) ?_
            refine goK hB s2_ok rfl rfl (by simp [conj, Fits_i64] <;> omega) ?_
            refine run_condF rfl (by simp; omega) ?_
            refine goK hB s2_ok rfl rfl (by simp [conj, Fits_i64] <;> omega) ?_
            refine run_back ?_
            refine goK hB s2_ok rfl rfl (by simp [conj]) ?_
            refine run_condT rfl (by decide) ?_
            refine goK hB s2_ok rfl rfl (by simp [conj, Fits_i64] <;> omega) ?_
            refine run_condF rfl (by simp; omega) ?_
            refine goK hB s2_ok rfl rfl (by simp [conj, Fits_i64] <;> omega) ?_
            refine run_back ?_
            refine goK hB s2_ok rfl rfl (by simp [conj]) ?_
            refine run_condF rfl (by decide) ?_
            refine goK hB s2_ok rfl rfl (by simp [conj, Fits_i64]; omega) ?_
            refine run_back ?_
            refine run_to hpin [0, 1, 2, 3, 4, 5] rfl rfl ?_ ih
            clear ih
            simp [conj, less_rfl, ren_ldr, ren_nr]
        · clear ih
          refine goK hB s2_ok rfl rfl (by simp [conj]) ?_
          refine run_callC known_hc named hB [] rfl rfl rfl rfl (by simp [conj]) (by simp [conj, less_rfl, ren_nr, ren_ldr]) ?_
          rintro ⟨⟩ _
          refine ⟨show 0 ≤ 0 by omega, _, _, _, rfl, rfl, rfl, ?_⟩
          refine goK hB s2_ok rfl rfl (by simp [conj]) ?_
          exact run_retC hpin () trivial [] rfl rfl (by simp [conj]) rfl (by simp [conj, less_rfl, ren_nr, ren_ldr])
end Sx
