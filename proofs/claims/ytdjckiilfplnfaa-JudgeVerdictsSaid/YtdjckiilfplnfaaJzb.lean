/- JudgeVerdicts: its walk. Conditions: as each theorem says. -/
import Derived.Test.YtdjckiilfplnfaaJza
set_option linter.unusedSimpArgs false
set_option linter.unusedVariables false
namespace Sx
open Go Go.Proofs
set_option maxRecDepth 100000
set_option pp.deepTerms true
set_option pp.maxSteps 10000000
theorem ex_unique {H : Hi} {n : Nat} {b b' : Bool} {k k' : Int} (h : EX H n b k) (g : EX H n b' k') : b = b' ∧ k = k' := by
  rcases h with ⟨h1, h2, h3⟩ | ⟨h1, j, h2, h3, h4, h5⟩ <;> rcases g with ⟨g1, g2, g3⟩ | ⟨g1, i, g2, g3, g4, g5⟩
  · exact ⟨h1.trans g1.symm, h2.trans g2.symm⟩
  · exact absurd (h3 i g3) g4
  · exact absurd (g3 j h3) h4
  · refine ⟨h1.trans g1.symm, ?_⟩
    rcases Nat.lt_trichotomy i j with q | q | q
    · exact absurd (h5 i q) g4
    · rw [h2, g2, q]
    · exact absurd (g5 j q) h4
set_option maxHeartbeats 8000000 in
theorem judgeVerdicts_hcx {K : Kn} {H : Hi} {vo vc : Value} {V : Nat → Value} (h : ARG K H vo vc V) :
    HCX Try.prog K M0 4 [hA H vo vc] [] [] 0 (fun (_ : Unit) _ => True) (fun _ => ⟨.tt, [], 0⟩) := by
  obtain ⟨b, hb⟩ := small_b H
  obtain ⟨bv, hbv⟩ := valid_b H
  refine hcx_of_run Try.func4 rfl (fun B hB hK hpin => ?_)
  have hF0 : Fz B K M0 B K := .refl hB hK
  refine goT hB [] 400 rfl (by first | exact conj_nil | simp [conj]) ?_
  refine run_callCK (small_hck h.toHOK0 b hb) named hB hK [] rfl rfl rfl rfl (by first | exact conj_nil | simp [conj]) (by simp [conj, less_rfl]) ?_
  rintro ⟨⟩ _
  refine ⟨show 0 ≤ 0 by omega, _, _, _, rfl, rfl, rfl, ?_⟩
  refine goT hB [(4, 11)] 400 rfl (by first | exact conj_nil | simp [conj]) ?_
  cases hb1 : b with
  | false =>
    refine run_tt rfl ?_
    refine goT hB [] 400 rfl (by first | exact conj_nil | simp [conj]) ?_
    refine run_callCK (known_hck (K := K)) named hB hK [] rfl rfl rfl rfl (by first | exact conj_nil | simp [conj]) (by simp [conj, less_rfl]) ?_
    rintro ⟨⟩ _
    refine ⟨show 0 ≤ 0 by omega, _, _, _, rfl, rfl, rfl, ?_⟩
    refine goT hB [] 400 rfl (by first | exact conj_nil | simp [conj]) ?_
    refine run_retF hF0 hpin () trivial [] rfl rfl (by first | exact conj_nil | simp [conj]) rfl ?_
    simp [conj, less_rfl]
  | true =>
    have s : Small H := hb.1 hb1
    have h' := s.ok h.toHOK0
    have hnc := s.nc
    refine run_ff rfl ?_
    refine goT hB [] 400 rfl (by first | exact conj_nil | simp [conj]) ?_
    cases hbv1 : bv with
    | false =>
      have hv : ¬ VHi H := fun q => by have := hbv.2 q; rw [hbv1] at this; cases this
      refine run_callCK (explained_no h' hv) named hB hK [] rfl rfl rfl rfl (by first | exact conj_nil | simp [conj]) (by simp [conj, less_rfl]) ?_
      rintro ⟨⟩ _
      refine ⟨show 0 ≤ 0 by omega, _, _, _, rfl, rfl, rfl, ?_⟩
      refine goT hB [] 400 rfl (by first | exact conj_nil | simp [conj]) ?_
      refine run_callCK (validR_hck h' h.u h.f bv hbv) named hB hK [] rfl rfl rfl rfl (by first | exact conj_nil | simp [conj]) (by simp [conj, less_rfl]) ?_
      rintro ⟨⟩ _
      refine ⟨show 0 ≤ 0 by omega, _, _, _, rfl, rfl, rfl, ?_⟩
      refine goT hB [(4, 21)] 400 rfl (by first | exact conj_nil | simp [conj]) ?_
      rw [hbv1]
      refine run_tt rfl ?_
      refine goT hB [] 400 rfl (by first | exact conj_nil | simp [conj]) ?_
      refine run_callCK (valid_hck h' false (by simp [hv])) named hB hK [] rfl rfl rfl rfl (by first | exact conj_nil | simp [conj]) (by simp [conj, less_rfl]) ?_
      rintro ⟨⟩ _
      refine ⟨show 0 ≤ 0 by omega, _, _, _, rfl, rfl, rfl, ?_⟩
      refine goT hB [(4, 35)] 400 rfl (by first | exact conj_nil | simp [conj]) ?_
      refine run_tt rfl ?_
      refine goT hB [] 400 rfl (by first | exact conj_nil | simp [conj]) ?_
      refine run_callCK (known_hck (K := K)) named hB hK [] rfl rfl rfl rfl (by first | exact conj_nil | simp [conj]) (by simp [conj, less_rfl]) ?_
      rintro ⟨⟩ _
      refine ⟨show 0 ≤ 0 by omega, _, _, _, rfl, rfl, rfl, ?_⟩
      refine goT hB [] 400 rfl (by first | exact conj_nil | simp [conj]) ?_
      refine run_retF hF0 hpin () trivial [] rfl rfl (by first | exact conj_nil | simp [conj]) rfl ?_
      simp [conj, less_rfl]
    | true =>
      have hv : VHi H := hbv.1 hbv1
      have hu1 := hv.u1
      have hu8 := hv.u8
      have hb1' := hv.b1
      have hb2 := hv.b2
      have hum := units_mul hv
      have hnU := units_le hv
      have hdiv : H.blocks / H.unit = (nU H : Int) := by
        unfold nU
        rw [Int.toNat_of_nonneg (Int.ediv_nonneg (by omega) (by omega))]
      have hlen := (s.v hv).2
      have hpw := pow_small s hv
      refine run_callCK (explained_hck h' hv (by omega) h.vf) named hB hK [] rfl rfl rfl rfl (by first | exact conj_nil | simp [conj]) (by simp [conj, less_rfl]) ?_
      rintro (_ | ⟨be, ke⟩) hz
      · obtain ⟨u, e, q1, q2, q3⟩ := hz
        have := hlen u q1 e q2
        omega
      · obtain ⟨_, hex⟩ := hz
        refine ⟨show 0 ≤ 0 by omega, _, _, _, rfl, rfl, rfl, ?_⟩
        refine goT hB [(4, 16)] 400 rfl (by first | exact conj_nil | simp [conj]) ?_
        refine run_to hpin [0] (nx' := 1) (rest' := []) (sl' := [(13, .tup [.sb be, i64 ke, i64 0]), (16, .sb be), (1, .ptr 0 0)]) (hp' := [(0, hC H vo vc)]) rfl rfl (by simp [conj, less_rfl]) ?_
        refine goT hB [(4, 3)] 400 rfl (by first | exact conj_nil | simp [conj]) ?_
        refine run_to hpin [0] (nx' := 1) (rest' := []) (sl' := [(18, i64 0), (17, i64 ke), (3, .sb be), (1, .ptr 0 0)]) (hp' := [(0, hC H vo vc)]) rfl rfl (by simp [conj, less_rfl]) ?_
        refine goT hB [] 400 rfl (by first | exact conj_nil | simp [conj]) ?_
        refine run_callCK (validR_hck h' h.u h.f bv hbv) named hB hK [] rfl rfl rfl rfl (by first | exact conj_nil | simp [conj]) (by simp [conj, less_rfl]) ?_
        rintro ⟨⟩ _
        refine ⟨show 0 ≤ 0 by omega, _, _, _, rfl, rfl, rfl, ?_⟩
        refine goT hB [(4, 21)] 400 rfl (by first | exact conj_nil | simp [conj]) ?_
        rw [hbv1]
        refine run_ff rfl ?_
        refine goT hB [] 400 rfl (by first | exact conj_nil | simp [conj]) ?_
        refine run_loop ?_
        refine run_to hpin [0] (nx' := 1) (rest' := []) (sl' := [(8, i64 ((0 : Nat) : Int)), (7, i64 0), (6, .sb true), (5, i64 0), (4, i64 ke), (3, .sb be), (1, .ptr 0 0)]) (hp' := [(0, hC H vo vc)]) rfl rfl (by simp [conj, less_rfl]) ?_
        refine run_invX (ι := Nat × Bool × Int) hF0 hpin (fun x _ => x.1 ≤ nU H ∧ ((x.2.1 = true ∧ x.2.2 = 0 ∧ ∀ u, u < x.1 → SomeF H u) ∨ (x.2.1 = false ∧ EX H (nU H) false x.2.2))) (fun x => nU H - x.1)
          (fun x => [(8, i64 x.1), (7, i64 x.2.2), (6, .sb x.2.1), (5, i64 0), (4, i64 ke), (3, .sb be), (1, .ptr 0 0)]) (fun _ => []) (fun _ => [(0, hC H vo vc)]) (0, true, 0) ⟨Nat.zero_le _, .inl ⟨rfl, rfl, fun u hu => absurd hu (Nat.not_lt_zero _)⟩⟩ ?_
        rintro ⟨k, want, unit⟩ B1 K1 hF1 hpin1 ⟨hk, hst⟩ ih
        dsimp only at hk hst ih ⊢
        have hB1 := hF1.ok
        have hK1 := hF1.le
        have h1 := h'.mono fun b o e => hF1.old b o e (fun h => h)
        refine goT hB1 [(4, 46)] 400 rfl (by clear ih; simp [conj, Fits_i64, hdiv]; omega) ?_
        rw [hdiv]
        have exit : EX H (nU H) want unit → be = want ∧ ke = unit := fun g => ex_unique hex g
        by_cases hkl : k < nU H
        · refine run_tt (by simpa using hkl) ?_
          refine goT hB1 [(4, 48)] 400 rfl (by clear ih; first | exact conj_nil | simp [conj]) ?_
          rcases hst with ⟨rfl, rfl, hall⟩ | ⟨rfl, hno⟩
          · refine run_tt rfl ?_
            refine goT hB1 [] 400 rfl (by clear ih; first | exact conj_nil | simp [conj]) ?_
            have hub : ((k : Int) + 1) * H.unit ≤ H.blocks := by
              rw [← hum]; exact Int.mul_le_mul_of_nonneg_right (by omega) (by omega)
            refine run_callX (finalsR_hcx h1 hv (k : Int) (by omega) hub (hlen k hkl) (Nat.le_trans (Nat.mul_le_mul_right _ hpw) (by decide))) named hB1 hK1 (fun _ h => h.elim) (.inr fun _ h => h) [] rfl rfl rfl rfl (by first | exact conj_nil | simp [conj]) (by clear ih; simp [conj, less_rfl]) ?_
            rintro ⟨yv, Y, W⟩ B2 K2 ⟨hy1, hy2⟩ hF2 hp2
            dsimp only at hy1 hy2
            have hpin2 := hpin1.fz hF2 hp2
            have hF2' := hF1.trans0 hF2 hK fun _ h => h.elim
            refine ⟨show 0 ≤ 0 by omega, _, _, _, rfl, rfl, rfl, ?_⟩
            refine run_open hF2.le 54 hy1.1 (by decide) rfl (fun o1 => ?_)
            refine goT hF2.ok [(4, 56)] 400 rfl (by clear ih; first | exact conj_nil | simp [conj]) ?_
            refine run_close (.inl rfl) ?_
            by_cases hYl : Y.length = 0
            · have hnoF : ¬ SomeF H k := fun ⟨v, hv'⟩ => by
                have := (hy2.2 v).2 hv'
                rw [List.length_eq_zero_iff.1 hYl] at this
                cases this
              have ih := ih (k + 1, false, (k : Int)) B2 K2 hF2' hpin2 ⟨hkl, .inr ⟨rfl, .inr ⟨rfl, k, rfl, hkl, hnoF, hall⟩⟩⟩ (by show nU H - (k + 1) < nU H - k; omega)
              dsimp only at ih
              refine run_tt (decide_eq_true (by show ((Y.length : Nat) : Int) = 0; omega)) ?_
              refine goT hF2.ok [] 400 rfl (by clear ih; simp [conj, Fits_i64]; omega) ?_
              refine run_back ?_
              refine run_to hpin2 [0] rfl rfl ?_ ih
              clear ih
              simp [conj, less_rfl]
            · have hyes : SomeF H k := by
                obtain ⟨v, hv'⟩ := List.exists_mem_of_length_pos (l := Y) (by omega)
                exact ⟨v, (hy2.2 v).1 hv'⟩
              have ih := ih (k + 1, true, 0) B2 K2 hF2' hpin2 ⟨hkl, .inl ⟨rfl, rfl, fun u hu => by
                rcases Nat.eq_or_lt_of_le (Nat.le_of_lt_succ hu) with q | q
                · rw [q]; exact hyes
                · exact hall u q⟩⟩ (by show nU H - (k + 1) < nU H - k; omega)
              dsimp only at ih
              refine run_ff (decide_eq_false (by show ¬ ((Y.length : Nat) : Int) = 0; omega)) ?_
              refine goT hF2.ok [] 400 rfl (by clear ih; simp [conj, Fits_i64]; omega) ?_
              refine run_back ?_
              refine run_to hpin2 [0] rfl rfl ?_ ih
              clear ih
              simp [conj, less_rfl]
          · clear ih
            obtain ⟨rfl, rfl⟩ := exit hno
            refine run_ff rfl ?_
            refine goT hB1 [] 400 rfl (by first | exact conj_nil | simp [conj]) ?_
            refine run_callCK (valid_hck h1 true (by simp [hv])) named hB1 hK1 [] rfl rfl rfl rfl (by first | exact conj_nil | simp [conj]) (by simp [conj, less_rfl]) ?_
            rintro ⟨⟩ _
            refine ⟨show 0 ≤ 0 by omega, _, _, _, rfl, rfl, rfl, ?_⟩
            refine goT hB1 [(4, 60)] 400 rfl (by first | exact conj_nil | simp [conj]) ?_
            refine run_tt rfl ?_
            refine goT hB1 [(4, 65)] 400 rfl (by first | exact conj_nil | simp [conj]) ?_
            refine run_ff rfl ?_
            refine goT hB1 [(4, 66)] 400 rfl (by first | exact conj_nil | simp [conj]) ?_
            refine run_ff rfl ?_
            refine goT hB1 [(4, 72)] 400 rfl (by simp [conj, isBo4]) ?_
            refine run_tt (by simp) ?_
            refine goT hB1 [] 400 rfl (by first | exact conj_nil | simp [conj]) ?_
            refine run_callCK (known_hck (K := K1)) named hB1 hK1 [] rfl rfl rfl rfl (by first | exact conj_nil | simp [conj]) (by simp [conj, less_rfl]) ?_
            rintro ⟨⟩ _
            refine ⟨show 0 ≤ 0 by omega, _, _, _, rfl, rfl, rfl, ?_⟩
            refine goT hB1 [] 400 rfl (by first | exact conj_nil | simp [conj]) ?_
            refine run_retF hF1 hpin1 () trivial [] rfl rfl (by first | exact conj_nil | simp [conj]) rfl ?_
            simp [conj, less_rfl]
        · clear ih
          have hex2 : EX H (nU H) want unit := by
            rcases hst with ⟨rfl, rfl, hall⟩ | ⟨rfl, hno⟩
            · exact .inl ⟨rfl, rfl, fun u hu => hall u (by omega)⟩
            · exact hno
          obtain ⟨rfl, rfl⟩ := exit hex2
          refine run_ff (by simpa using hkl) ?_
          refine goT hB1 [] 400 rfl (by first | exact conj_nil | simp [conj]) ?_
          refine run_callCK (valid_hck h1 true (by simp [hv])) named hB1 hK1 [] rfl rfl rfl rfl (by first | exact conj_nil | simp [conj]) (by simp [conj, less_rfl]) ?_
          rintro ⟨⟩ _
          refine ⟨show 0 ≤ 0 by omega, _, _, _, rfl, rfl, rfl, ?_⟩
          refine goT hB1 [(4, 60)] 400 rfl (by first | exact conj_nil | simp [conj]) ?_
          refine run_tt rfl ?_
          refine goT hB1 [(4, 65)] 400 rfl (by first | exact conj_nil | simp [conj]) ?_
          cases be with
          | true =>
            refine run_tt rfl ?_
            refine goT hB1 [(4, 66)] 400 rfl (by first | exact conj_nil | simp [conj]) ?_
            refine run_tt rfl ?_
            refine goT hB1 [(4, 72)] 400 rfl (by simp [conj, isBo4]) ?_
            refine run_tt (by simp) ?_
            refine goT hB1 [] 400 rfl (by first | exact conj_nil | simp [conj]) ?_
            refine run_callCK (known_hck (K := K1)) named hB1 hK1 [] rfl rfl rfl rfl (by first | exact conj_nil | simp [conj]) (by simp [conj, less_rfl]) ?_
            rintro ⟨⟩ _
            refine ⟨show 0 ≤ 0 by omega, _, _, _, rfl, rfl, rfl, ?_⟩
            refine goT hB1 [] 400 rfl (by first | exact conj_nil | simp [conj]) ?_
            refine run_retF hF1 hpin1 () trivial [] rfl rfl (by first | exact conj_nil | simp [conj]) rfl ?_
            simp [conj, less_rfl]
          | false =>
            refine run_ff rfl ?_
            refine goT hB1 [(4, 66)] 400 rfl (by first | exact conj_nil | simp [conj]) ?_
            refine run_ff rfl ?_
            refine goT hB1 [(4, 72)] 400 rfl (by simp [conj, isBo4]) ?_
            refine run_tt (by simp) ?_
            refine goT hB1 [] 400 rfl (by first | exact conj_nil | simp [conj]) ?_
            refine run_callCK (known_hck (K := K1)) named hB1 hK1 [] rfl rfl rfl rfl (by first | exact conj_nil | simp [conj]) (by simp [conj, less_rfl]) ?_
            rintro ⟨⟩ _
            refine ⟨show 0 ≤ 0 by omega, _, _, _, rfl, rfl, rfl, ?_⟩
            refine goT hB1 [] 400 rfl (by first | exact conj_nil | simp [conj]) ?_
            refine run_retF hF1 hpin1 () trivial [] rfl rfl (by first | exact conj_nil | simp [conj]) rfl ?_
            simp [conj, less_rfl]
end Sx
