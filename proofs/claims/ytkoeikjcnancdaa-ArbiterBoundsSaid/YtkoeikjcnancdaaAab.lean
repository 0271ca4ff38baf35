/- ArbiterBounds returns true. Conditions: as the theorem says. -/
import Derived.Test.YtkoeikjcnancdaaAz
set_option linter.unusedSimpArgs false
set_option linter.unusedVariables false
namespace Sx
open Go Go.Proofs
set_option maxRecDepth 100000
theorem anyL_succ (ld : Ld) (i : Nat) : anyL ld (i + 1) = (anyL ld i || decide (0 < (ld.getD i (0, 0)).2)) := by
  unfold anyL; rw [List.range_succ, List.any_append]; simp
theorem urgL_succ (ld : Ld) (i : Nat) : urgL ld (i + 1) = (urgL ld i || (decide ((i : Int) % 4 = 0) && decide (0 < (ld.getD i (0, 0)).2))) := by
  unfold urgL; rw [List.range_succ, List.any_append]; simp
set_option maxHeartbeats 4000000 in
theorem bounds_hc (w : Bool) (b hi me lo : Int) (off : Nat) (ld : Ld) (many : Int) :
    HC Try.prog 5 [cfgV w b hi me lo, .sq 0 off 0 2 ld.length .no, i64 many] [] [(0, .row off ld.length ld.length 2 (ldr ld) anyTy)] 1 (fun _ : Unit => True) (fun _ => ⟨.tt, [], 1⟩) := by
  refine hc_of_run Try.func5 rfl (fun B hB hpin => ?_)
  refine goK hB s2_ok rfl rfl (by simp [conj]) ?_
  cases hok : okC w b hi me lo with
  | false =>
    refine run_callC (new_bad w b hi me lo hok) named hB [] rfl rfl rfl rfl (by simp [conj]) (by simp [conj, less_rfl, ren_nr, ren_ldr]) ?_
    rintro ⟨⟩ _
    refine ⟨show 0 ≤ 0 by omega, _, _, _, rfl, rfl, rfl, ?_⟩
    refine goK hB s2_ok rfl rfl (by simp [conj]) ?_
    refine run_condT rfl (by simp) ?_
    refine goK hB s2_ok rfl rfl (by simp [conj]) ?_
    refine run_callC known_hc named hB [] rfl rfl rfl rfl (by simp [conj]) (by simp [conj, less_rfl, ren_nr, ren_ldr]) ?_
    rintro ⟨⟩ _
    refine ⟨show 0 ≤ 0 by omega, _, _, _, rfl, rfl, rfl, ?_⟩
    refine goK hB s2_ok rfl rfl (by simp [conj]) ?_
    exact run_retC hpin () trivial [0] rfl rfl (by simp [conj]) rfl (by simp [conj, less_rfl, ren_nr, ren_ldr])
  | true =>
  refine run_callC (new_ok w b hi me lo hok) named hB [] rfl rfl rfl rfl (by simp [conj]) (by simp [conj, less_rfl, ren_nr, ren_ldr]) ?_
  rintro ⟨⟩ _
  refine ⟨show 0 ≤ 2 by omega, _, _, _, rfl, rfl, rfl, ?_⟩
  refine goK hB s2_ok rfl rfl (by simp [conj]) ?_
  refine run_cond rfl (fun hq => ?_) (fun hq => ?_)
  · refine goK hB s2_ok rfl rfl (by simp [conj]) ?_
    refine run_callC known_hc named hB [] rfl rfl rfl rfl (by simp [conj]) (by simp [conj, less_rfl, ren_nr, ren_ldr]) ?_
    rintro ⟨⟩ _
    refine ⟨show 0 ≤ 0 by omega, _, _, _, rfl, rfl, rfl, ?_⟩
    refine goK hB s2_ok rfl rfl (by simp [conj]) ?_
    exact run_retC hpin () trivial [0] rfl rfl (by simp [conj]) rfl (by simp [conj, less_rfl, ren_nr, ren_ldr])
  have hq : ld.length ≤ 30 ∧ 0 ≤ many ∧ many ≤ 10 := by simp at hq; omega
  obtain ⟨hn, ht0, ht1⟩ := hq
  refine goK hB s2_ok rfl rfl (by simp [conj]) ?_
  refine run_loop ?_
  refine run_inv (ι := Nat × ASt) hpin (fun x => x.1 ≤ ld.length ∧ ∃ Q, BSt w b ld x.1 (x.2, Q)) (fun x => ld.length - x.1)
    (fun x => [(1, .sq 0 off 0 2 ld.length .no), (2, i64 many), (3, .ptr 1 0), (7, .ptr 2 0), (9, .sb (anyL ld x.1)), (10, .sb (urgL ld x.1)), (11, i64 x.1)]) (fun _ => [])
    (fun x => [(1, .cells [.sb w, i64 b, i64 hi, i64 me, i64 lo] 23), (2, .cells (objL x.2 3) 70), (3, .map .i64 x.2.h (.ints .i64 x.2.v))]) 4 (0, aNew w b hi me lo) ⟨Nat.zero_le _, [], BSt.new hok ld⟩
    [0, 1, 2, 3] rfl rfl (by simp [conj, less_rfl, ren_ldr, ren_nr, anyL, urgL]) ?_
  rintro ⟨i, s⟩ ⟨h1, Q, h2⟩ ih
  dsimp only at h1
  refine goK hB s2_ok rfl rfl (by simp [conj]) ?_
  refine run_cond rfl (fun h => ?_) (fun h => ?_)
  · have hi : i < ld.length := by simpa using h
    refine goK hB s2_ok rfl rfl (by simp [conj, hi]) ?_
    have eg : List.getD ld (0 + (i : Int).toNat) (0, 0) = ld[i] := by simp [hi]
    refine run_split 51 rfl (fun hq => ?_) (fun hq => ?_)
    · clear ih
      refine goK hB s2_ok rfl rfl (by simp [conj, hi]) ?_
      refine run_callC known_hc named hB [] rfl rfl rfl rfl (by simp [conj]) (by simp [conj, less_rfl, ren_nr, ren_ldr]) ?_
      rintro ⟨⟩ _
      refine ⟨show 0 ≤ 0 by omega, _, _, _, rfl, rfl, rfl, ?_⟩
      refine goK hB s2_ok rfl rfl (by simp [conj]) ?_
      exact run_retC hpin () trivial [0] rfl rfl (by simp [conj]) rfl (by simp [conj, less_rfl, ren_nr, ren_ldr])
    rw [eg] at hq
    have h0 : 0 ≤ ld[i].2 := by simpa using hq
    by_cases he : addE s ld[i].1 ((i : Int) % 4) = 0
    · have ha := add0 s ld[i].1 ((i : Int) % 4) he
      have h3 := h2.add hi h0 he
      refine run_callC ha named hB [2, 3] rfl rfl rfl rfl (by simp [conj, hi]; exact h0) (by simp [conj, less_rfl, ren_nr, ren_ldr, hi]) ?_
      rintro ⟨⟩ _
      refine ⟨show 2 ≤ 2 by omega, _, _, _, rfl, rfl, rfl, ?_⟩
      refine goK hB s2_ok rfl rfl (by simp [conj, hi]) ?_
      refine run_condF rfl (by first | (simp [hi]; done) | (simp [hi]; exact h0)) ?_
      have ih := ih (i + 1, addS s ld[i].1 ((i : Int) % 4)) ⟨by show i + 1 ≤ ld.length; omega, _, h3⟩ (by show ld.length - (i + 1) < ld.length - i; omega)
      refine goK hB s2_ok rfl rfl (by simp [conj, hi, Fits_i64]; exact ⟨by omega, fun a b => ⟨a, b⟩⟩) ?_
      refine run_back ?_
      refine run_to hpin [0, 1, 2, 3] rfl rfl ?_ ih
      clear ih
      simp [conj, less_rfl, ren_ldr, ren_nr, anyL_succ, urgL_succ, hi]
    · clear ih
      refine run_callC (addB_hc s _ _ he) named hB [2, 3] rfl rfl rfl rfl (by simp [conj, hi]; exact h0) (by simp [conj, less_rfl, ren_nr, ren_ldr, hi]) ?_
      rintro ⟨⟩ _
      refine ⟨show 2 ≤ 2 by omega, _, _, _, rfl, rfl, rfl, ?_⟩
      refine goK hB s2_ok rfl rfl (by simp [conj, hi]) ?_
      refine run_condT rfl (by simp [he]) ?_
      refine goK hB s2_ok rfl rfl (by simp [conj]) ?_
      refine run_callC known_hc named hB [] rfl rfl rfl rfl (by simp [conj]) (by simp [conj, less_rfl, ren_nr, ren_ldr]) ?_
      rintro ⟨⟩ _
      refine ⟨show 0 ≤ 0 by omega, _, _, _, rfl, rfl, rfl, ?_⟩
      refine goK hB s2_ok rfl rfl (by simp [conj]) ?_
      exact run_retC hpin () trivial [0] rfl rfl (by simp [conj]) rfl (by simp [conj, less_rfl, ren_nr, ren_ldr])
  · have hi : i = ld.length := by simp at h; omega
    subst hi
    clear ih
    refine goK hB s2_ok rfl rfl (by simp [conj]) ?_
    refine run_loop ?_
    refine run_inv (ι := Nat × ASt) hpin (fun x => (x.1 : Int) ≤ many ∧ BSt w b ld ld.length (x.2, Q)) (fun x => 10 - x.1)
      (fun x => [(1, .sq 0 off 0 2 ld.length .no), (2, i64 many), (3, .ptr 1 0), (7, .ptr 2 0), (9, .sb (anyL ld ld.length)), (10, .sb (urgL ld ld.length)), (12, i64 x.1)]) (fun _ => [])
      (fun x => [(1, .cells [.sb w, i64 b, i64 hi, i64 me, i64 lo] 23), (2, .cells (objL x.2 3) 70), (3, .map .i64 x.2.h (.ints .i64 x.2.v))]) 4 (0, s) ⟨ht0, h2⟩
      [0, 1, 2, 3] rfl rfl (by simp [conj, less_rfl, ren_ldr, ren_nr]) ?_
    clear h2 h1 h
    rintro ⟨t, s⟩ ⟨h1, h2⟩ ih
    dsimp only at h1
    refine goK hB s2_ok rfl rfl (by simp [conj]) ?_
    refine run_cond rfl (fun h => ?_) (fun h => ?_)
    · have ht : (t : Int) < many := by simpa using h
      have hp := pick_ok s h2.c ld off ld.length (by omega) (lQ Q ld) h2.all (lQ_keys h2.q h2.all)
      have h3 : BSt w b ld ld.length ((pickR s (lQ Q ld) (wv ld)).s, Q) := h2.same (h2.c.pickR _ _ (wv_nonneg h2.all)) (pickR_hv _ _ _).1 (pickR_hv _ _ _).2 (pickR_wb _ _ _).1 (pickR_wb _ _ _).2
      have ih := ih (t + 1, (pickR s (lQ Q ld) (wv ld)).s) ⟨by show ((t + 1 : Nat) : Int) ≤ many; omega, h3⟩ (by show 10 - (t + 1) < 10 - t; omega)
      refine goK hB s2_ok rfl rfl (by simp [conj]) ?_
      cases ha : anyL ld ld.length with
      | false =>
        have hz := h2.none ha
        rw [hz] at hp ih
        dsimp only at hp ih
        refine run_callC hp named hB [2, 3, 0] rfl rfl rfl rfl (by simp [conj]) (by simp [conj, less_rfl, ren_nr, ren_ldr]) ?_
        rintro ⟨⟩ _
        refine ⟨show 3 ≤ 3 by omega, _, _, _, rfl, rfl, rfl, ?_⟩
        refine goK hB s2_ok rfl rfl (by simp [conj]) ?_
        refine run_condT rfl (by decide) ?_
        refine goK hB s2_ok rfl rfl (by simp [conj]) ?_
        refine run_condF rfl (by decide) ?_
        refine goK hB s2_ok rfl rfl (by simp [conj, Fits_i64]; omega) ?_
        refine run_back ?_
        refine run_to hpin [0, 1, 2, 3] rfl rfl ?_ ih
        clear ih
        simp [conj, less_rfl, ren_ldr, ren_nr, ha]
      | true =>
        obtain ⟨z1, z2, z3, j, hj, z4, z5, z6⟩ := h2.some ha
        rw [z1, z4] at hp
        generalize hzn : (pickR s (lQ Q ld) (wv ld)).n = zn at hp z2 z3 z5
        generalize (pickR s (lQ Q ld) (wv ld)).s = zs at hp ih
        refine run_callC hp named hB [2, 3, 0] rfl rfl rfl rfl (by simp [conj]) (by simp [conj, less_rfl, ren_nr, ren_ldr]) ?_
        rintro ⟨⟩ _
        refine ⟨show 3 ≤ 3 by omega, _, _, _, rfl, rfl, rfl, ?_⟩
        refine goK hB s2_ok rfl rfl (by simp [conj]) ?_
        refine run_condF rfl (by simp) ?_
        refine goK hB s2_ok rfl rfl (by simp [conj]) ?_
        refine run_loop ?_
        refine run_inv (ι := Nat) hpin (fun i => i ≤ ld.length) (fun i => ld.length - i)
          (fun i => [(1, .sq 0 off 0 2 ld.length .no), (2, i64 many), (3, .ptr 1 0), (7, .ptr 2 0), (9, .tt), (10, .sb (urgL ld ld.length)), (12, i64 t), (13, i64 ld[j].1), (14, i64 zn), (15, i64 0), (16, .sb (decide (j < i))), (17, i64 i)]) (fun _ => [])
          (fun _ => [(1, .cells [.sb w, i64 b, i64 hi, i64 me, i64 lo] 23), (2, .cells (objL zs 3) 70), (3, .map .i64 zs.h (.ints .i64 zs.v))]) 4 0 (Nat.zero_le _)
          [0, 1, 2, 3] rfl rfl (by simp [conj, less_rfl, ren_ldr, ren_nr]) ?_
        intro i hi0 jh
        refine goK hB s2_ok rfl rfl (by simp [conj]) ?_
        refine run_cond rfl (fun h => ?_) (fun h => ?_)
        · clear ih
          have hi : i < ld.length := by simpa using h
          have eg : List.getD ld (0 + (i : Int).toNat) (0, 0) = ld[i] := by simp [hi]
          have jh := jh (i + 1) (by show i + 1 ≤ ld.length; omega) (by show ld.length - (i + 1) < ld.length - i; omega)
          refine goK hB s2_ok rfl rfl (by simp [conj, hi]) ?_
          refine run_cond rfl (fun hq => ?_) (fun hq => ?_)
          · rw [eg] at hq
            have e : ld[i].1 = ld[j].1 := by simpa using hq
            have := h2.all.inj hi hj e
            subst this
            refine goK hB s2_ok rfl rfl (by simp [conj, hi, Fits_i64]; exact ⟨by omega, fun a b c => ⟨a, b, c⟩, fun a b => ⟨a, b⟩⟩) ?_
            refine run_back ?_
            refine run_to hpin [0, 1, 2, 3] rfl rfl ?_ jh
            clear jh
            simp [conj, less_rfl, ren_ldr, ren_nr, hi]
            refine ⟨z5, ?_⟩
            cases w with
            | false => simp
            | true => cases hu : urgL ld ld.length with
              | false => simp
              | true => simp; have := z6 rfl hu; omega
          · rw [eg] at hq
            have e : i ≠ j := fun e => by subst e; simp at hq
            refine goK hB s2_ok rfl rfl (by simp [conj, hi, Fits_i64]; omega) ?_
            refine run_back ?_
            refine run_to hpin [0, 1, 2, 3] rfl rfl ?_ jh
            clear jh
            simp [conj, less_rfl, ren_ldr, ren_nr]
            omega
        · have hi : i = ld.length := by simp at h; omega
          subst hi
          clear jh
          refine goK hB s2_ok rfl rfl (by simp [conj]; exact fun a b c => ⟨⟨a, b⟩, c⟩) ?_
          refine run_condF rfl (by simp [hj]; exact ⟨z2, z3⟩) ?_
          refine goK hB s2_ok rfl rfl (by simp [conj, Fits_i64]; omega) ?_
          refine run_back ?_
          refine run_to hpin [0, 1, 2, 3] rfl rfl ?_ ih
          clear ih
          simp [conj, less_rfl, ren_ldr, ren_nr, ha]
    · clear ih
      refine goK hB s2_ok rfl rfl (by simp [conj]) ?_
      refine run_callC known_hc named hB [] rfl rfl rfl rfl (by simp [conj]) (by simp [conj, less_rfl, ren_nr, ren_ldr]) ?_
      rintro ⟨⟩ _
      refine ⟨show 0 ≤ 0 by omega, _, _, _, rfl, rfl, rfl, ?_⟩
      refine goK hB s2_ok rfl rfl (by simp [conj]) ?_
      exact run_retC hpin () trivial [0] rfl rfl (by simp [conj]) rfl (by simp [conj, less_rfl, ren_nr, ren_ldr])
end Sx
