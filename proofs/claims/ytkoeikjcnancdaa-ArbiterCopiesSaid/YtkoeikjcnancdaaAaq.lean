/- ArbiterCopies returns true. Conditions: as the theorem says. -/
import Derived.Test.YtkoeikjcnancdaaAap
set_option linter.unusedSimpArgs false
set_option linter.unusedVariables false
namespace Sx
open Go Go.Proofs
set_option maxRecDepth 100000
abbrev cpA (s : ASt) (Q : Ld) (cap : Nat) : Hp := [(3, .cells (objL s 4) 70), (4, .map .i64 s.h (.ints .i64 s.v)), (5, .cells (refL s 6 Q.length .no) 49), (6, .row 0 Q.length cap 2 (ldr Q) 63)]
structure CX where
  i : Nat
  m : Bool
  sa : ASt
  Qa : Ld
  ca : Nat
  sb : ASt
  Qb : Ld
  cb : Nat
abbrev cpH (x : CX) : Hp := cpA x.sa x.Qa x.ca ++ ([(7, .cells (objL x.sb 8) 70), (8, .map .i64 x.sb.h (.ints .i64 x.sb.v))] ++ match x.m with
  | true => [(9, .cells (refL x.sb 6 x.Qa.length .no) 49)]
  | false => [(9, .cells (refL x.sb 10 x.Qb.length .no) 49), (10, .row 0 x.Qb.length x.cb 2 (ldr x.Qb) 63)])
structure CI (n1 n2 : Nat) (x : CX) : Prop where
  i : x.i ≤ max n1 n2
  qa : QOk x.sa x.Qa
  ca : CredOk x.sa
  la : x.Qa.length ≤ 60 + x.i
  qb : QOk x.sb x.Qb
  cb : CredOk x.sb
  lb : x.Qb.length ≤ 60 + x.i
  e : x.m = true → x.Qb = x.Qa
set_option maxHeartbeats 16000000 in
theorem copies_c (w0 : Bool) (b hi me lo : Int) (off0 n0 : Nat) (L0 : Nat → AC) (O0 : Nat → Nat) (off1 n1 : Nat) (L1 : Nat → AC) (O1 : Nat → Nat) (off2 n2 : Nat) (L2 : Nat → AC) (O2 : Nat → Nat) {B0 : Base} {β : Env} {w : World} {vs : List Value} (hB0 : B0.ok)
    (hl : RelL β [cfgV w0 b hi me lo, .sq 0 off0 0 9 n0 .no, .sq 1 off1 0 9 n1 .no, .sq 2 off2 0 9 n2 .no] vs) (hs : Sat β [] [] B0 3 w)
    (hA00 : ∀ B : Base, B.D = B0.D → B.pin = β → ActsAt B 0 off0 n0 L0 O0) (hA10 : ∀ B : Base, B.D = B0.D → B.pin = β → ActsAt B 1 off1 n1 L1 O1) (hA20 : ∀ B : Base, B.D = B0.D → B.pin = β → ActsAt B 2 off2 n2 L2 O2) :
    Calls Try.prog 8 vs.toArray w (HEnd β B0 [] (fun _ : Unit => True) (fun _ => ⟨.tt, [], 3⟩)) := by
  refine hcB_of_run Try.func8 rfl hB0 hl hs (fun B e1 e2 hB hpin => ?_)
  have hA0 := hA00 B e1 e2
  have hA1 := hA10 B e1 e2
  have hA2 := hA20 B e1 e2
  clear hA00 hA10 hA20 e1 e2 hs hl hB0
  refine goK hB s2_ok rfl rfl (by simp [conj]) ?_
  cases hok : okC w0 b hi me lo with
  | false =>
    refine run_callC (new_bad w0 b hi me lo hok) named hB [] rfl rfl rfl rfl (by simp [conj]) (by simp [conj, less_rfl]) ?_
    rintro ⟨⟩ _
    refine ⟨show 0 ≤ 0 by omega, _, _, _, rfl, rfl, rfl, ?_⟩
    refine goK hB s2_ok rfl rfl (by simp [conj]) ?_
    refine run_split 24 rfl (fun _ => ?_) (fun h => absurd h (by simp))
    refine goK hB s2_ok rfl rfl (by simp [conj]) ?_
    refine run_callC known_hc named hB [] rfl rfl rfl rfl (by simp [conj]) (by simp [conj, less_rfl, ren_ldr]) ?_
    rintro ⟨⟩ _
    refine ⟨show 0 ≤ 0 by omega, _, _, _, rfl, rfl, rfl, ?_⟩
    refine goK hB s2_ok rfl rfl (by simp [conj]) ?_
    exact run_retC hpin () trivial [0, 1, 2] rfl rfl (by simp [conj]) rfl (by simp [conj, less_rfl])
  | true =>
  refine run_callC (new_ok w0 b hi me lo hok) named hB [] rfl rfl rfl rfl (by simp [conj]) (by simp [conj, less_rfl]) ?_
  rintro ⟨⟩ _
  refine ⟨show 0 ≤ 2 by omega, _, _, _, rfl, rfl, rfl, ?_⟩
  refine goK hB s2_ok rfl rfl (by simp [conj]) ?_
  refine run_split 24 rfl (fun h => absurd h (by simp)) (fun _ => ?_)
  refine goK hB s2_ok rfl rfl (by simp [conj]) ?_
  refine run_cond rfl (fun hq => ?_) (fun hq => ?_)
  · clear hq
    refine goK hB s2_ok rfl rfl (by simp [conj]) ?_
    refine run_callC known_hc named hB [] rfl rfl rfl rfl (by simp [conj]) (by simp [conj, less_rfl, ren_ldr]) ?_
    rintro ⟨⟩ _
    refine ⟨show 0 ≤ 0 by omega, _, _, _, rfl, rfl, rfl, ?_⟩
    refine goK hB s2_ok rfl rfl (by simp [conj]) ?_
    exact run_retC hpin () trivial [0, 1, 2] rfl rfl (by simp [conj]) rfl (by simp [conj, less_rfl])
  have hn0 : n0 ≤ 60 := by simp at hq; omega
  clear hq
  refine goK hB s2_ok rfl rfl (by simp [conj]) ?_
  refine run_loop ?_
  refine run_invK (ι := Nat) hpin (fun i => i ≤ n0 ∧ ∀ j, j < i → (L0 j).ld.length ≤ 30) (fun i => n0 - i)
    (fun i => [(0, .sq 0 off0 0 9 n0 .no), (3, i64 i)]) (fun _ => [[(1, .sq 0 off0 0 9 n0 .no), (2, .sq 1 off1 0 9 n1 .no), (3, .sq 2 off2 0 9 n2 .no), (4, .ptr 3 0), (9, .ptr 4 0), (10, i64 0), (24, .ff)]]) []
    (fun _ => [(3, .cells [.sb w0, i64 b, i64 hi, i64 me, i64 lo] 23), (4, .cells (objL (aNew w0 b hi me lo) 5) 70), (5, .map .i64 (aNew w0 b hi me lo).h (.ints .i64 (aNew w0 b hi me lo).v))]) 6 0 ⟨Nat.zero_le _, fun j hj => absurd hj (Nat.not_lt_zero _)⟩
    [0, 1, 2, 3, 4, 5] rfl rfl (by simp [conj, less_rfl]) ?_
  rintro i ⟨h1, h2⟩ ih
  refine goK hB s2_ok rfl rfl (by simp [conj]) ?_
  refine run_cond rfl (fun h => ?_) (fun h => ?_)
  · have hi : i < n0 := by simpa using h
    refine run_ro (ro' := actRo 0 off0 i (L0 i) (O0 i) 6) (nx' := 7) (fun β w hs => hA0.open hi (by omega) β w hs) ?_
    refine goK hB s2_ok rfl rfl (by simp [conj, hi]) ?_
    refine run_cond rfl (fun hq => ?_) (fun hq => ?_)
    · clear ih
      refine run_shut ?_
      refine goK hB s2_ok rfl rfl (by simp [conj]) ?_
      refine run_callC known_hc named hB [] rfl rfl rfl rfl (by simp [conj]) (by simp [conj, less_rfl, ren_ldr]) ?_
      rintro ⟨⟩ _
      refine ⟨show 0 ≤ 0 by omega, _, _, _, rfl, rfl, rfl, ?_⟩
      refine goK hB s2_ok rfl rfl (by simp [conj]) ?_
      exact run_retC hpin () trivial [0, 1, 2] rfl rfl (by simp [conj]) rfl (by simp [conj, less_rfl])
    have ih := ih (i + 1) ⟨by omega, fun j hj => by
      rcases Nat.lt_or_ge j i with q | q
      · exact h2 j q
      · rw [show j = i by omega]; simp at hq; omega⟩ (by omega)
    refine goK hB s2_ok rfl rfl (by simp [conj, Fits_i64]; omega) ?_
    refine run_shut ?_
    refine run_back ?_
    refine run_to hpin [0, 1, 2, 3, 4, 5] rfl rfl ?_ ih
    clear ih
    simp [conj, less_rfl]
  have hi : i = n0 := by simp at h; omega
  clear ih
  have hf0 : ∀ j, j < n0 → (L0 j).ld.length ≤ 30 := by rw [hi] at h2; exact h2
  clear h1 h2 h hi
  refine goK hB s2_ok rfl rfl (by simp [conj]) ?_
  refine run_cond rfl (fun hq => ?_) (fun hq => ?_)
  · clear hq
    refine goK hB s2_ok rfl rfl (by simp [conj]) ?_
    refine run_callC known_hc named hB [] rfl rfl rfl rfl (by simp [conj]) (by simp [conj, less_rfl, ren_ldr]) ?_
    rintro ⟨⟩ _
    refine ⟨show 0 ≤ 0 by omega, _, _, _, rfl, rfl, rfl, ?_⟩
    refine goK hB s2_ok rfl rfl (by simp [conj]) ?_
    exact run_retC hpin () trivial [0, 1, 2] rfl rfl (by simp [conj]) rfl (by simp [conj, less_rfl])
  have hn1 : n1 ≤ 60 := by simp at hq; omega
  clear hq
  refine goK hB s2_ok rfl rfl (by simp [conj]) ?_
  refine run_loop ?_
  refine run_invK (ι := Nat) hpin (fun i => i ≤ n1 ∧ ∀ j, j < i → (L1 j).ld.length ≤ 30) (fun i => n1 - i)
    (fun i => [(0, .sq 1 off1 0 9 n1 .no), (3, i64 i)]) (fun _ => [[(1, .sq 0 off0 0 9 n0 .no), (2, .sq 1 off1 0 9 n1 .no), (3, .sq 2 off2 0 9 n2 .no), (4, .ptr 3 0), (9, .ptr 4 0), (10, i64 0), (29, .ff)]]) []
    (fun _ => [(3, .cells [.sb w0, i64 b, i64 hi, i64 me, i64 lo] 23), (4, .cells (objL (aNew w0 b hi me lo) 5) 70), (5, .map .i64 (aNew w0 b hi me lo).h (.ints .i64 (aNew w0 b hi me lo).v))]) 6 0 ⟨Nat.zero_le _, fun j hj => absurd hj (Nat.not_lt_zero _)⟩
    [0, 1, 2, 3, 4, 5] rfl rfl (by simp [conj, less_rfl]) ?_
  rintro i ⟨h1, h2⟩ ih
  refine goK hB s2_ok rfl rfl (by simp [conj]) ?_
  refine run_cond rfl (fun h => ?_) (fun h => ?_)
  · have hi : i < n1 := by simpa using h
    refine run_ro (ro' := actRo 1 off1 i (L1 i) (O1 i) 6) (nx' := 7) (fun β w hs => hA1.open hi (by omega) β w hs) ?_
    refine goK hB s2_ok rfl rfl (by simp [conj, hi]) ?_
    refine run_cond rfl (fun hq => ?_) (fun hq => ?_)
    · clear ih
      refine run_shut ?_
      refine goK hB s2_ok rfl rfl (by simp [conj]) ?_
      refine run_callC known_hc named hB [] rfl rfl rfl rfl (by simp [conj]) (by simp [conj, less_rfl, ren_ldr]) ?_
      rintro ⟨⟩ _
      refine ⟨show 0 ≤ 0 by omega, _, _, _, rfl, rfl, rfl, ?_⟩
      refine goK hB s2_ok rfl rfl (by simp [conj]) ?_
      exact run_retC hpin () trivial [0, 1, 2] rfl rfl (by simp [conj]) rfl (by simp [conj, less_rfl])
    have ih := ih (i + 1) ⟨by omega, fun j hj => by
      rcases Nat.lt_or_ge j i with q | q
      · exact h2 j q
      · rw [show j = i by omega]; simp at hq; omega⟩ (by omega)
    refine goK hB s2_ok rfl rfl (by simp [conj, Fits_i64]; omega) ?_
    refine run_shut ?_
    refine run_back ?_
    refine run_to hpin [0, 1, 2, 3, 4, 5] rfl rfl ?_ ih
    clear ih
    simp [conj, less_rfl]
  have hi : i = n1 := by simp at h; omega
  clear ih
  have hf1 : ∀ j, j < n1 → (L1 j).ld.length ≤ 30 := by rw [hi] at h2; exact h2
  clear h1 h2 h hi
  refine goK hB s2_ok rfl rfl (by simp [conj]) ?_
  refine run_cond rfl (fun hq => ?_) (fun hq => ?_)
  · clear hq
    refine goK hB s2_ok rfl rfl (by simp [conj]) ?_
    refine run_callC known_hc named hB [] rfl rfl rfl rfl (by simp [conj]) (by simp [conj, less_rfl, ren_ldr]) ?_
    rintro ⟨⟩ _
    refine ⟨show 0 ≤ 0 by omega, _, _, _, rfl, rfl, rfl, ?_⟩
    refine goK hB s2_ok rfl rfl (by simp [conj]) ?_
    exact run_retC hpin () trivial [0, 1, 2] rfl rfl (by simp [conj]) rfl (by simp [conj, less_rfl])
  have hn2 : n2 ≤ 60 := by simp at hq; omega
  clear hq
  refine goK hB s2_ok rfl rfl (by simp [conj]) ?_
  refine run_loop ?_
  refine run_invK (ι := Nat) hpin (fun i => i ≤ n2 ∧ ∀ j, j < i → (L2 j).ld.length ≤ 30) (fun i => n2 - i)
    (fun i => [(0, .sq 2 off2 0 9 n2 .no), (3, i64 i)]) (fun _ => [[(1, .sq 0 off0 0 9 n0 .no), (2, .sq 1 off1 0 9 n1 .no), (3, .sq 2 off2 0 9 n2 .no), (4, .ptr 3 0), (9, .ptr 4 0), (10, i64 0), (34, .ff)]]) []
    (fun _ => [(3, .cells [.sb w0, i64 b, i64 hi, i64 me, i64 lo] 23), (4, .cells (objL (aNew w0 b hi me lo) 5) 70), (5, .map .i64 (aNew w0 b hi me lo).h (.ints .i64 (aNew w0 b hi me lo).v))]) 6 0 ⟨Nat.zero_le _, fun j hj => absurd hj (Nat.not_lt_zero _)⟩
    [0, 1, 2, 3, 4, 5] rfl rfl (by simp [conj, less_rfl]) ?_
  rintro i ⟨h1, h2⟩ ih
  refine goK hB s2_ok rfl rfl (by simp [conj]) ?_
  refine run_cond rfl (fun h => ?_) (fun h => ?_)
  · have hi : i < n2 := by simpa using h
    refine run_ro (ro' := actRo 2 off2 i (L2 i) (O2 i) 6) (nx' := 7) (fun β w hs => hA2.open hi (by omega) β w hs) ?_
    refine goK hB s2_ok rfl rfl (by simp [conj, hi]) ?_
    refine run_cond rfl (fun hq => ?_) (fun hq => ?_)
    · clear ih
      refine run_shut ?_
      refine goK hB s2_ok rfl rfl (by simp [conj]) ?_
      refine run_callC known_hc named hB [] rfl rfl rfl rfl (by simp [conj]) (by simp [conj, less_rfl, ren_ldr]) ?_
      rintro ⟨⟩ _
      refine ⟨show 0 ≤ 0 by omega, _, _, _, rfl, rfl, rfl, ?_⟩
      refine goK hB s2_ok rfl rfl (by simp [conj]) ?_
      exact run_retC hpin () trivial [0, 1, 2] rfl rfl (by simp [conj]) rfl (by simp [conj, less_rfl])
    have ih := ih (i + 1) ⟨by omega, fun j hj => by
      rcases Nat.lt_or_ge j i with q | q
      · exact h2 j q
      · rw [show j = i by omega]; simp at hq; omega⟩ (by omega)
    refine goK hB s2_ok rfl rfl (by simp [conj, Fits_i64]; omega) ?_
    refine run_shut ?_
    refine run_back ?_
    refine run_to hpin [0, 1, 2, 3, 4, 5] rfl rfl ?_ ih
    clear ih
    simp [conj, less_rfl]
  have hi : i = n2 := by simp at h; omega
  clear ih
  have hf2 : ∀ j, j < n2 → (L2 j).ld.length ≤ 30 := by rw [hi] at h2; exact h2
  clear h1 h2 h hi
  refine goK hB s2_ok rfl rfl (by simp [conj]) ?_
  refine run_callC (refnew_hc w0 b hi me lo) named hB [] rfl rfl rfl rfl (by simp [conj]) (by simp [conj, less_rfl]) ?_
  rintro ⟨⟩ _
  refine ⟨show 0 ≤ 0 by omega, _, _, _, rfl, rfl, rfl, ?_⟩
  refine goK hB s2_ok rfl rfl (by simp [conj]) ?_
  refine run_loop ?_
  refine run_inv (ι := Nat × ASt × Ld × Nat) hpin (fun x => x.1 ≤ n0 ∧ QOk x.2.1 x.2.2.1 ∧ CredOk x.2.1 ∧ x.2.2.1.length ≤ x.1) (fun x => n0 - x.1)
    (fun x => [(1, .sq 0 off0 0 9 n0 .no), (2, .sq 1 off1 0 9 n1 .no), (3, .sq 2 off2 0 9 n2 .no), (9, .ptr 3 0), (11, .ptr 5 0), (12, .tt), (13, i64 x.1)]) (fun _ => [])
    (fun x => cpA x.2.1 x.2.2.1 x.2.2.2) 7 (0, aNew w0 b hi me lo, [], 0) ⟨Nat.zero_le _, .nil _ _ _ _ _, .new hok, Nat.le_refl _⟩
    [0, 1, 2, 4, 5, 6, 7] rfl rfl (by simp [conj, less_rfl, ren_ldr]) ?_
  rintro ⟨j, s, Q, cap⟩ ⟨h3, h4, h5, h6⟩ ih
  dsimp only at h3 h4 h5 h6
  refine goK hB s2_ok rfl rfl (by simp [conj]) ?_
  refine run_cond rfl (fun h => ?_) (fun h => ?_)
  · have hj : j < n0 := by simpa using h
    have hla := hf0 j hj
    obtain ⟨z, ⟨g1, g2, g3⟩, hdo⟩ := do_det s h5 Q h4 cap (O0 j) (L0 j).ld.length (by omega) (L0 j) (by omega)
    have ih := ih (j + 1, z) ⟨by show j + 1 ≤ n0; omega, g1, g2, by show z.2.1.length ≤ j + 1; omega⟩ (by show n0 - (j + 1) < n0 - j; omega)
    refine goK hB s2_ok rfl rfl (by simp [conj]) ?_
    refine run_draw0 mixed (fun t => ?_)
    refine run_ro (ro' := actRo 0 off0 j (L0 j) (O0 j) 7) (nx' := 8) (fun β w hs => hA0.open hj (by omega) β w hs) ?_
    refine run_pinK 6 (show 6 < 8 by omega) (fun b1 r1 hM1 => ?_)
    refine run_pinK 7 (show 7 < 8 by omega) (fun b2 r2 hM2 => ?_)
    have hB2 : ((B.pinA 6 b1 r1).pinA 7 b2 r2).ok := Base.pinA_ok (Base.pinA_ok hB)
    refine run_drawC (M := modeK s2) 1 12 rfl named hB2 s2_ok [(14, rcDo s Q cap (O0 j) (L0 j) z [3, 4, 6, 7])] ⟨⟨hdo, rfl, by show 4 ≤ 5; omega⟩, trivial⟩ rfl rfl rfl rfl rfl rfl (by simp [conj, less_rfl, SO.Live, ren_ldr, renR_ldr, hj]; exact ⟨.inr (show Pinned _ 7 from pinned_A), .inr (show Pinned _ 6 from Pinned.A pinned_A)⟩) (fun t => ?_)
    refine run_drawE rfl ?_
    refine goK hB2 s2_ok rfl rfl (by simp [conj, Fits_i64]; omega) ?_
    refine run_unpin hM2 ?_
    refine run_unpin hM1 ?_
    refine run_shut ?_
    refine run_back ?_
    refine run_to hpin [0, 1, 2, 3, 4, 5, 14] rfl rfl ?_ ih
    clear ih
    simp [conj, less_rfl, ren_ldr, renR_ldr]
  clear ih
  have hlQ : Q.length ≤ 60 := by omega
  clear h3 h6 h
  refine goK hB s2_ok rfl rfl (by simp [conj]) ?_
  refine run_draw0 mixed (fun t => ?_)
  refine run_drawC (M := modeK s2) 2 6 rfl named hB s2_ok [(8, rcCopy s [3, 4])] ⟨⟨copy_hc s (numL Q) h4.keys (by simp; omega), rfl, by show 2 ≤ 4; omega⟩, trivial⟩ rfl rfl rfl rfl rfl rfl (by simp [conj, less_rfl, SO.Live, ren_ldr, renR_ldr]) (fun t => ?_)
  refine run_drawE rfl ?_
  refine goK hB s2_ok rfl rfl (by simp [conj, isPt25]) ?_
  refine run_condF rfl (by simp) ?_
  refine goK hB s2_ok rfl rfl (by simp [conj]) ?_
  refine run_loop ?_
  refine run_inv (ι := CX) hpin (CI n1 n2) (fun x => max n1 n2 - x.i)
    (fun x => [(1, .sq 0 off0 0 9 n0 .no), (2, .sq 1 off1 0 9 n1 .no), (3, .sq 2 off2 0 9 n2 .no), (9, .ptr 3 0), (11, .ptr 5 0), (12, .tt), (14, .ptr 7 0), (15, .ptr 9 0), (16, i64 x.i)]) (fun _ => [])
    cpH 11 ⟨0, true, s, Q, cap, s, Q, cap⟩ ⟨Nat.zero_le _, h4, h5, hlQ, h4, h5, hlQ, fun _ => rfl⟩
    [0, 1, 2, 3, 4, 5, 6, 8, 14, 10, 19] rfl rfl (by simp [conj, less_rfl, ren_ldr]) ?_
  clear h4 h5 hlQ
  rintro ⟨i, m, sa, Qa, ca, sb, Qb, cb⟩ ⟨k1, qa, ka, la, qb, kb, lb, ke⟩ ih
  dsimp only at k1 qa ka la qb kb lb ke
  cases m with
  | true =>
    have ke := ke rfl
    have qbS : QOk sb Qa := ke ▸ qb
    have lbS : Qb.length = Qa.length := by rw [ke]
    refine goK hB s2_ok rfl rfl (by simp [conj]) ?_
    refine run_cond rfl (fun h => ?_) (fun h => ?_)
    · have hi : i < max n1 n2 := by simp at h; omega
      refine goK hB s2_ok rfl rfl (by simp [conj]) ?_
      refine run_cond rfl (fun h1 => ?_) (fun h1 => ?_)
      · have hi1 : i < n1 := by simpa using h1
        have hla1 := hf1 i hi1
        rcases do_detR sa ka Qa qa ca (O1 i) (L1 i).ld.length (by omega) (L1 i) (by omega) with ⟨z, ⟨z1, z2⟩, hdo⟩ | ⟨z, ⟨z1, z2, z3⟩, hdo⟩
        · skip
          refine run_draw0 mixed (fun t => ?_)
          refine run_ro (ro' := actRo 1 off1 i (L1 i) (O1 i) 11) (nx' := 12) (fun β w hs => hA1.open hi1 (by omega) β w hs) ?_
          refine run_pinK 6 (show 6 < 12 by omega) (fun b1 r1 hM1 => ?_)
          refine run_pinK 11 (show 11 < 12 by omega) (fun b2 r2 hM2 => ?_)
          have hB2 : ((B.pinA 6 b1 r1).pinA 11 b2 r2).ok := Base.pinA_ok (Base.pinA_ok hB)
          refine run_drawC (M := modeK s2) 1 12 rfl named hB2 s2_ok [(18, rcDoK sa Qa ca (O1 i) (L1 i) z [3, 4, 6, 11])] ⟨⟨hdo, rfl, by show 4 ≤ 4; omega⟩, trivial⟩ rfl rfl rfl rfl rfl rfl (by simp [conj, less_rfl, SO.Live, ren_ldr, renR_ldr, hi1]; exact ⟨.inr (show Pinned _ 11 from pinned_A), .inr (show Pinned _ 6 from Pinned.A pinned_A)⟩) (fun t => ?_)
          refine run_drawE rfl ?_
          refine goK hB2 s2_ok rfl rfl (by simp [conj]) ?_
          refine run_unpin hM2 ?_
          refine run_unpin hM1 ?_
          refine run_shut ?_
          clear hB2 hM1 hM2 b1 r1 b2 r2
          refine run_cond rfl (fun h2 => ?_) (fun h2 => ?_)
          · have hi2 : i < n2 := by simpa using h2
            have hla2 := hf2 i hi2
            rcases do_detR sb kb Qa (qbS) ca (O2 i) (L2 i).ld.length (by omega) (L2 i) (by omega) with ⟨y, ⟨y1, y2⟩, hdo2⟩ | ⟨y, ⟨y1, y2, y3⟩, hdo2⟩
            · skip
              refine run_draw0 mixed (fun t => ?_)
              refine run_ro (ro' := actRo 2 off2 i (L2 i) (O2 i) 24) (nx' := 25) (fun β w hs => hA2.open hi2 (by omega) β w hs) ?_
              refine run_pinK 6 (show 6 < 25 by omega) (fun b1 r1 hM1 => ?_)
              refine run_pinK 24 (show 24 < 25 by omega) (fun b2 r2 hM2 => ?_)
              have hB2 : ((B.pinA 6 b1 r1).pinA 24 b2 r2).ok := Base.pinA_ok (Base.pinA_ok hB)
              refine run_drawC (M := modeK s2) 1 12 rfl named hB2 s2_ok [(31, rcDoK sb Qa ca (O2 i) (L2 i) y [7, 8, 6, 24])] ⟨⟨hdo2, rfl, by show 4 ≤ 4; omega⟩, trivial⟩ rfl rfl rfl rfl rfl rfl (by simp [conj, less_rfl, SO.Live, ren_ldr, renR_ldr, hi2]; exact ⟨.inr (show Pinned _ 24 from pinned_A), .inr (show Pinned _ 6 from Pinned.A pinned_A)⟩) (fun t => ?_)
              refine run_drawE rfl ?_
              refine goK hB2 s2_ok rfl rfl (by simp [conj, Fits_i64]; omega) ?_
              refine run_unpin hM2 ?_
              refine run_unpin hM1 ?_
              refine run_shut ?_
              refine run_back ?_
              refine run_to hpin [0, 1, 2, 3, 4, 5, 6, 7, 8, 9, 54] rfl rfl ?_ (ih ⟨i + 1, true, z, Qa, ca, y, Qa, ca⟩ ⟨by show i + 1 ≤ max n1 n2; omega, z1, z2, by dsimp only; omega, y1, y2, by dsimp only; omega, fun _ => rfl⟩ (by show max n1 n2 - (i + 1) < max n1 n2 - i; omega))
              clear ih
              simp [conj, less_rfl, ren_ldr, renR_ldr]
            · skip
              refine run_draw0 mixed (fun t => ?_)
              refine run_ro (ro' := actRo 2 off2 i (L2 i) (O2 i) 24) (nx' := 25) (fun β w hs => hA2.open hi2 (by omega) β w hs) ?_
              refine run_pinK 6 (show 6 < 25 by omega) (fun b1 r1 hM1 => ?_)
              refine run_pinK 24 (show 24 < 25 by omega) (fun b2 r2 hM2 => ?_)
              have hB2 : ((B.pinA 6 b1 r1).pinA 24 b2 r2).ok := Base.pinA_ok (Base.pinA_ok hB)
              refine run_drawC (M := modeK s2) 1 12 rfl named hB2 s2_ok [(31, rcDoN sb Qa ca (O2 i) (L2 i) y [7, 8, 6, 24])] ⟨⟨hdo2, rfl, by show 4 ≤ 5; omega⟩, trivial⟩ rfl rfl rfl rfl rfl rfl (by simp [conj, less_rfl, SO.Live, ren_ldr, renR_ldr, hi2]; exact ⟨.inr (show Pinned _ 24 from pinned_A), .inr (show Pinned _ 6 from Pinned.A pinned_A)⟩) (fun t => ?_)
              refine run_drawE rfl ?_
              refine goK hB2 s2_ok rfl rfl (by simp [conj, Fits_i64]; omega) ?_
              refine run_unpin hM2 ?_
              refine run_unpin hM1 ?_
              refine run_shut ?_
              refine run_back ?_
              refine run_to hpin [0, 1, 2, 3, 4, 5, 6, 7, 8, 9, 31] rfl rfl ?_ (ih ⟨i + 1, false, z, Qa, ca, y.1, y.2.1, y.2.2⟩ ⟨by show i + 1 ≤ max n1 n2; omega, z1, z2, by dsimp only; omega, y1, y2, by dsimp only; omega, fun h => by cases h⟩ (by show max n1 n2 - (i + 1) < max n1 n2 - i; omega))
              clear ih
              simp [conj, less_rfl, ren_ldr, renR_ldr]
          · skip
            refine goK hB s2_ok rfl rfl (by simp [conj, Fits_i64]; omega) ?_
            refine run_back ?_
            refine run_to hpin [0, 1, 2, 3, 4, 5, 6, 7, 8, 9, 54] rfl rfl ?_ (ih ⟨i + 1, true, z, Qa, ca, sb, Qa, ca⟩ ⟨by show i + 1 ≤ max n1 n2; omega, z1, z2, by dsimp only; omega, qbS, kb, by dsimp only; omega, fun _ => rfl⟩ (by show max n1 n2 - (i + 1) < max n1 n2 - i; omega))
            clear ih
            simp [conj, less_rfl, ren_ldr, renR_ldr]
        · skip
          refine run_draw0 mixed (fun t => ?_)
          refine run_ro (ro' := actRo 1 off1 i (L1 i) (O1 i) 11) (nx' := 12) (fun β w hs => hA1.open hi1 (by omega) β w hs) ?_
          refine run_pinK 6 (show 6 < 12 by omega) (fun b1 r1 hM1 => ?_)
          refine run_pinK 11 (show 11 < 12 by omega) (fun b2 r2 hM2 => ?_)
          have hB2 : ((B.pinA 6 b1 r1).pinA 11 b2 r2).ok := Base.pinA_ok (Base.pinA_ok hB)
          refine run_drawC (M := modeK s2) 1 12 rfl named hB2 s2_ok [(18, rcDoN sa Qa ca (O1 i) (L1 i) z [3, 4, 6, 11])] ⟨⟨hdo, rfl, by show 4 ≤ 5; omega⟩, trivial⟩ rfl rfl rfl rfl rfl rfl (by simp [conj, less_rfl, SO.Live, ren_ldr, renR_ldr, hi1]; exact ⟨.inr (show Pinned _ 11 from pinned_A), .inr (show Pinned _ 6 from Pinned.A pinned_A)⟩) (fun t => ?_)
          refine run_drawE rfl ?_
          refine goK hB2 s2_ok rfl rfl (by simp [conj]) ?_
          refine run_unpin hM2 ?_
          refine run_unpin hM1 ?_
          refine run_shut ?_
          clear hB2 hM1 hM2 b1 r1 b2 r2
          refine run_cond rfl (fun h2 => ?_) (fun h2 => ?_)
          · have hi2 : i < n2 := by simpa using h2
            have hla2 := hf2 i hi2
            obtain ⟨y, ⟨y1, y2, y3⟩, hdo2⟩ := do_det sb kb Qa qbS ca (O2 i) (L2 i).ld.length (by omega) (L2 i) (by omega)
            refine run_draw0 mixed (fun t => ?_)
            refine run_ro (ro' := actRo 2 off2 i (L2 i) (O2 i) 24) (nx' := 25) (fun β w hs => hA2.open hi2 (by omega) β w hs) ?_
            refine run_pinK 6 (show 6 < 25 by omega) (fun b1 r1 hM1 => ?_)
            refine run_pinK 24 (show 24 < 25 by omega) (fun b2 r2 hM2 => ?_)
            have hB2 : ((B.pinA 6 b1 r1).pinA 24 b2 r2).ok := Base.pinA_ok (Base.pinA_ok hB)
            refine run_drawC (M := modeK s2) 1 12 rfl named hB2 s2_ok [(31, rcDo sb Qa ca (O2 i) (L2 i) y [7, 8, 6, 24])] ⟨⟨hdo2, rfl, by show 4 ≤ 5; omega⟩, trivial⟩ rfl rfl rfl rfl rfl rfl (by simp [conj, less_rfl, SO.Live, ren_ldr, renR_ldr, hi2]; exact ⟨.inr (show Pinned _ 24 from pinned_A), .inr (show Pinned _ 6 from Pinned.A pinned_A)⟩) (fun t => ?_)
            refine run_drawE rfl ?_
            refine goK hB2 s2_ok rfl rfl (by simp [conj, Fits_i64]; omega) ?_
            refine run_unpin hM2 ?_
            refine run_unpin hM1 ?_
            refine run_shut ?_
            refine run_back ?_
            refine run_to hpin [0, 1, 2, 3, 4, 5, 18, 7, 8, 9, 31] rfl rfl ?_ (ih ⟨i + 1, false, z.1, z.2.1, z.2.2, y.1, y.2.1, y.2.2⟩ ⟨by show i + 1 ≤ max n1 n2; omega, z1, z2, by dsimp only; omega, y1, y2, by dsimp only; omega, fun h => by cases h⟩ (by show max n1 n2 - (i + 1) < max n1 n2 - i; omega))
            clear ih
            simp [conj, less_rfl, ren_ldr, renR_ldr]
          · skip
            refine goK hB s2_ok rfl rfl (by simp [conj, Fits_i64]; omega) ?_
            refine run_back ?_
            refine run_to hpin [0, 1, 2, 3, 4, 5, 18, 7, 8, 9, 6] rfl rfl ?_ (ih ⟨i + 1, false, z.1, z.2.1, z.2.2, sb, Qa, ca⟩ ⟨by show i + 1 ≤ max n1 n2; omega, z1, z2, by dsimp only; omega, qbS, kb, by dsimp only; omega, fun h => by cases h⟩ (by show max n1 n2 - (i + 1) < max n1 n2 - i; omega))
            clear ih
            simp [conj, less_rfl, ren_ldr, renR_ldr]
      · refine goK hB s2_ok rfl rfl (by simp [conj]) ?_
        refine run_cond rfl (fun h2 => ?_) (fun h2 => ?_)
        · have hi2 : i < n2 := by simpa using h2
          have hla2 := hf2 i hi2
          rcases do_detR sb kb Qa (qbS) ca (O2 i) (L2 i).ld.length (by omega) (L2 i) (by omega) with ⟨y, ⟨y1, y2⟩, hdo2⟩ | ⟨y, ⟨y1, y2, y3⟩, hdo2⟩
          · skip
            refine run_draw0 mixed (fun t => ?_)
            refine run_ro (ro' := actRo 2 off2 i (L2 i) (O2 i) 11) (nx' := 12) (fun β w hs => hA2.open hi2 (by omega) β w hs) ?_
            refine run_pinK 6 (show 6 < 12 by omega) (fun b1 r1 hM1 => ?_)
            refine run_pinK 11 (show 11 < 12 by omega) (fun b2 r2 hM2 => ?_)
            have hB2 : ((B.pinA 6 b1 r1).pinA 11 b2 r2).ok := Base.pinA_ok (Base.pinA_ok hB)
            refine run_drawC (M := modeK s2) 1 12 rfl named hB2 s2_ok [(18, rcDoK sb Qa ca (O2 i) (L2 i) y [7, 8, 6, 11])] ⟨⟨hdo2, rfl, by show 4 ≤ 4; omega⟩, trivial⟩ rfl rfl rfl rfl rfl rfl (by simp [conj, less_rfl, SO.Live, ren_ldr, renR_ldr, hi2]; exact ⟨.inr (show Pinned _ 11 from pinned_A), .inr (show Pinned _ 6 from Pinned.A pinned_A)⟩) (fun t => ?_)
            refine run_drawE rfl ?_
            refine goK hB2 s2_ok rfl rfl (by simp [conj, Fits_i64]; omega) ?_
            refine run_unpin hM2 ?_
            refine run_unpin hM1 ?_
            refine run_shut ?_
            refine run_back ?_
            refine run_to hpin [0, 1, 2, 3, 4, 5, 6, 7, 8, 9, 41] rfl rfl ?_ (ih ⟨i + 1, true, sa, Qa, ca, y, Qa, ca⟩ ⟨by show i + 1 ≤ max n1 n2; omega, qa, ka, by dsimp only; omega, y1, y2, by dsimp only; omega, fun _ => rfl⟩ (by show max n1 n2 - (i + 1) < max n1 n2 - i; omega))
            clear ih
            simp [conj, less_rfl, ren_ldr, renR_ldr]
          · skip
            refine run_draw0 mixed (fun t => ?_)
            refine run_ro (ro' := actRo 2 off2 i (L2 i) (O2 i) 11) (nx' := 12) (fun β w hs => hA2.open hi2 (by omega) β w hs) ?_
            refine run_pinK 6 (show 6 < 12 by omega) (fun b1 r1 hM1 => ?_)
            refine run_pinK 11 (show 11 < 12 by omega) (fun b2 r2 hM2 => ?_)
            have hB2 : ((B.pinA 6 b1 r1).pinA 11 b2 r2).ok := Base.pinA_ok (Base.pinA_ok hB)
            refine run_drawC (M := modeK s2) 1 12 rfl named hB2 s2_ok [(18, rcDoN sb Qa ca (O2 i) (L2 i) y [7, 8, 6, 11])] ⟨⟨hdo2, rfl, by show 4 ≤ 5; omega⟩, trivial⟩ rfl rfl rfl rfl rfl rfl (by simp [conj, less_rfl, SO.Live, ren_ldr, renR_ldr, hi2]; exact ⟨.inr (show Pinned _ 11 from pinned_A), .inr (show Pinned _ 6 from Pinned.A pinned_A)⟩) (fun t => ?_)
            refine run_drawE rfl ?_
            refine goK hB2 s2_ok rfl rfl (by simp [conj, Fits_i64]; omega) ?_
            refine run_unpin hM2 ?_
            refine run_unpin hM1 ?_
            refine run_shut ?_
            refine run_back ?_
            refine run_to hpin [0, 1, 2, 3, 4, 5, 6, 7, 8, 9, 18] rfl rfl ?_ (ih ⟨i + 1, false, sa, Qa, ca, y.1, y.2.1, y.2.2⟩ ⟨by show i + 1 ≤ max n1 n2; omega, qa, ka, by dsimp only; omega, y1, y2, by dsimp only; omega, fun h => by cases h⟩ (by show max n1 n2 - (i + 1) < max n1 n2 - i; omega))
            clear ih
            simp [conj, less_rfl, ren_ldr, renR_ldr]
        · skip
          refine goK hB s2_ok rfl rfl (by simp [conj, Fits_i64]; omega) ?_
          refine run_back ?_
          refine run_to hpin [0, 1, 2, 3, 4, 5, 6, 7, 8, 9, 41] rfl rfl ?_ (ih ⟨i + 1, true, sa, Qa, ca, sb, Qa, ca⟩ ⟨by show i + 1 ≤ max n1 n2; omega, qa, ka, by dsimp only; omega, qbS, kb, by dsimp only; omega, fun _ => rfl⟩ (by show max n1 n2 - (i + 1) < max n1 n2 - i; omega))
          clear ih
          simp [conj, less_rfl, ren_ldr, renR_ldr]
    · clear ih
      refine goK hB s2_ok rfl rfl (by simp [conj]) ?_
      refine run_callC (agrees_hc sa Qa ca qa (by omega)) named hB [3, 4, 6] rfl rfl rfl rfl (by simp [conj]) (by simp [conj, less_rfl, ren_ldr]) ?_
      rintro ⟨⟩ _
      refine ⟨show 3 ≤ 3 by omega, _, _, _, rfl, rfl, rfl, ?_⟩
      refine goK hB s2_ok rfl rfl (by simp [conj]) ?_
      refine run_callC (agrees_hc sb Qa ca qbS (by omega)) named hB [7, 8, 6] rfl rfl rfl rfl (by simp [conj]) (by simp [conj, less_rfl, ren_ldr]) ?_
      rintro ⟨⟩ _
      refine ⟨show 3 ≤ 3 by omega, _, _, _, rfl, rfl, rfl, ?_⟩
      refine goK hB s2_ok rfl rfl (by simp [conj]) ?_
      refine run_callC known_hc named hB [] rfl rfl rfl rfl (by simp [conj]) (by simp [conj, less_rfl, ren_ldr]) ?_
      rintro ⟨⟩ _
      refine ⟨show 0 ≤ 0 by omega, _, _, _, rfl, rfl, rfl, ?_⟩
      refine goK hB s2_ok rfl rfl (by simp [conj]) ?_
      exact run_retC hpin () trivial [0, 1, 2] rfl rfl (by simp [conj]) rfl (by simp [conj, less_rfl])
  | false =>
    refine goK hB s2_ok rfl rfl (by simp [conj]) ?_
    refine run_cond rfl (fun h => ?_) (fun h => ?_)
    · have hi : i < max n1 n2 := by simp at h; omega
      refine goK hB s2_ok rfl rfl (by simp [conj]) ?_
      refine run_cond rfl (fun h1 => ?_) (fun h1 => ?_)
      · have hi1 : i < n1 := by simpa using h1
        have hla1 := hf1 i hi1
        obtain ⟨z, ⟨z1, z2, z3⟩, hdo⟩ := do_det sa ka Qa qa ca (O1 i) (L1 i).ld.length (by omega) (L1 i) (by omega)
        refine run_draw0 mixed (fun t => ?_)
        refine run_ro (ro' := actRo 1 off1 i (L1 i) (O1 i) 11) (nx' := 12) (fun β w hs => hA1.open hi1 (by omega) β w hs) ?_
        refine run_pinK 6 (show 6 < 12 by omega) (fun b1 r1 hM1 => ?_)
        refine run_pinK 11 (show 11 < 12 by omega) (fun b2 r2 hM2 => ?_)
        have hB2 : ((B.pinA 6 b1 r1).pinA 11 b2 r2).ok := Base.pinA_ok (Base.pinA_ok hB)
        refine run_drawC (M := modeK s2) 1 12 rfl named hB2 s2_ok [(18, rcDo sa Qa ca (O1 i) (L1 i) z [3, 4, 6, 11])] ⟨⟨hdo, rfl, by show 4 ≤ 5; omega⟩, trivial⟩ rfl rfl rfl rfl rfl rfl (by simp [conj, less_rfl, SO.Live, ren_ldr, renR_ldr, hi1]; exact ⟨.inr (show Pinned _ 11 from pinned_A), .inr (show Pinned _ 6 from Pinned.A pinned_A)⟩) (fun t => ?_)
        refine run_drawE rfl ?_
        refine goK hB2 s2_ok rfl rfl (by simp [conj]) ?_
        refine run_unpin hM2 ?_
        refine run_unpin hM1 ?_
        refine run_shut ?_
        clear hB2 hM1 hM2 b1 r1 b2 r2
        refine run_cond rfl (fun h2 => ?_) (fun h2 => ?_)
        · have hi2 : i < n2 := by simpa using h2
          have hla2 := hf2 i hi2
          obtain ⟨y, ⟨y1, y2, y3⟩, hdo2⟩ := do_det sb kb Qb qb cb (O2 i) (L2 i).ld.length (by omega) (L2 i) (by omega)
          refine run_draw0 mixed (fun t => ?_)
          refine run_ro (ro' := actRo 2 off2 i (L2 i) (O2 i) 24) (nx' := 25) (fun β w hs => hA2.open hi2 (by omega) β w hs) ?_
          refine run_pinK 10 (show 10 < 25 by omega) (fun b1 r1 hM1 => ?_)
          refine run_pinK 24 (show 24 < 25 by omega) (fun b2 r2 hM2 => ?_)
          have hB2 : ((B.pinA 10 b1 r1).pinA 24 b2 r2).ok := Base.pinA_ok (Base.pinA_ok hB)
          refine run_drawC (M := modeK s2) 1 12 rfl named hB2 s2_ok [(31, rcDo sb Qb cb (O2 i) (L2 i) y [7, 8, 10, 24])] ⟨⟨hdo2, rfl, by show 4 ≤ 5; omega⟩, trivial⟩ rfl rfl rfl rfl rfl rfl (by simp [conj, less_rfl, SO.Live, ren_ldr, renR_ldr, hi2]; exact ⟨.inr (show Pinned _ 24 from pinned_A), .inr (show Pinned _ 10 from Pinned.A pinned_A)⟩) (fun t => ?_)
          refine run_drawE rfl ?_
          refine goK hB2 s2_ok rfl rfl (by simp [conj, Fits_i64]; omega) ?_
          refine run_unpin hM2 ?_
          refine run_unpin hM1 ?_
          refine run_shut ?_
          refine run_back ?_
          refine run_to hpin [0, 1, 2, 3, 4, 5, 18, 7, 8, 9, 31] rfl rfl ?_ (ih ⟨i + 1, false, z.1, z.2.1, z.2.2, y.1, y.2.1, y.2.2⟩ ⟨by show i + 1 ≤ max n1 n2; omega, z1, z2, by dsimp only; omega, y1, y2, by dsimp only; omega, fun h => by cases h⟩ (by show max n1 n2 - (i + 1) < max n1 n2 - i; omega))
          clear ih
          simp [conj, less_rfl, ren_ldr, renR_ldr]
        · skip
          refine goK hB s2_ok rfl rfl (by simp [conj, Fits_i64]; omega) ?_
          refine run_back ?_
          refine run_to hpin [0, 1, 2, 3, 4, 5, 18, 7, 8, 9, 10] rfl rfl ?_ (ih ⟨i + 1, false, z.1, z.2.1, z.2.2, sb, Qb, cb⟩ ⟨by show i + 1 ≤ max n1 n2; omega, z1, z2, by dsimp only; omega, qb, kb, by dsimp only; omega, fun h => by cases h⟩ (by show max n1 n2 - (i + 1) < max n1 n2 - i; omega))
          clear ih
          simp [conj, less_rfl, ren_ldr, renR_ldr]
      · refine goK hB s2_ok rfl rfl (by simp [conj]) ?_
        refine run_cond rfl (fun h2 => ?_) (fun h2 => ?_)
        · have hi2 : i < n2 := by simpa using h2
          have hla2 := hf2 i hi2
          obtain ⟨y, ⟨y1, y2, y3⟩, hdo2⟩ := do_det sb kb Qb qb cb (O2 i) (L2 i).ld.length (by omega) (L2 i) (by omega)
          refine run_draw0 mixed (fun t => ?_)
          refine run_ro (ro' := actRo 2 off2 i (L2 i) (O2 i) 11) (nx' := 12) (fun β w hs => hA2.open hi2 (by omega) β w hs) ?_
          refine run_pinK 10 (show 10 < 12 by omega) (fun b1 r1 hM1 => ?_)
          refine run_pinK 11 (show 11 < 12 by omega) (fun b2 r2 hM2 => ?_)
          have hB2 : ((B.pinA 10 b1 r1).pinA 11 b2 r2).ok := Base.pinA_ok (Base.pinA_ok hB)
          refine run_drawC (M := modeK s2) 1 12 rfl named hB2 s2_ok [(18, rcDo sb Qb cb (O2 i) (L2 i) y [7, 8, 10, 11])] ⟨⟨hdo2, rfl, by show 4 ≤ 5; omega⟩, trivial⟩ rfl rfl rfl rfl rfl rfl (by simp [conj, less_rfl, SO.Live, ren_ldr, renR_ldr, hi2]; exact ⟨.inr (show Pinned _ 11 from pinned_A), .inr (show Pinned _ 10 from Pinned.A pinned_A)⟩) (fun t => ?_)
          refine run_drawE rfl ?_
          refine goK hB2 s2_ok rfl rfl (by simp [conj, Fits_i64]; omega) ?_
          refine run_unpin hM2 ?_
          refine run_unpin hM1 ?_
          refine run_shut ?_
          refine run_back ?_
          refine run_to hpin [0, 1, 2, 3, 4, 5, 6, 7, 8, 9, 18] rfl rfl ?_ (ih ⟨i + 1, false, sa, Qa, ca, y.1, y.2.1, y.2.2⟩ ⟨by show i + 1 ≤ max n1 n2; omega, qa, ka, by dsimp only; omega, y1, y2, by dsimp only; omega, fun h => by cases h⟩ (by show max n1 n2 - (i + 1) < max n1 n2 - i; omega))
          clear ih
          simp [conj, less_rfl, ren_ldr, renR_ldr]
        · skip
          refine goK hB s2_ok rfl rfl (by simp [conj, Fits_i64]; omega) ?_
          refine run_back ?_
          refine run_to hpin [0, 1, 2, 3, 4, 5, 6, 7, 8, 9, 10] rfl rfl ?_ (ih ⟨i + 1, false, sa, Qa, ca, sb, Qb, cb⟩ ⟨by show i + 1 ≤ max n1 n2; omega, qa, ka, by dsimp only; omega, qb, kb, by dsimp only; omega, fun h => by cases h⟩ (by show max n1 n2 - (i + 1) < max n1 n2 - i; omega))
          clear ih
          simp [conj, less_rfl, ren_ldr, renR_ldr]
    · clear ih
      refine goK hB s2_ok rfl rfl (by simp [conj]) ?_
      refine run_callC (agrees_hc sa Qa ca qa (by omega)) named hB [3, 4, 6] rfl rfl rfl rfl (by simp [conj]) (by simp [conj, less_rfl, ren_ldr]) ?_
      rintro ⟨⟩ _
      refine ⟨show 3 ≤ 3 by omega, _, _, _, rfl, rfl, rfl, ?_⟩
      refine goK hB s2_ok rfl rfl (by simp [conj]) ?_
      refine run_callC (agrees_hc sb Qb cb qb (by omega)) named hB [7, 8, 10] rfl rfl rfl rfl (by simp [conj]) (by simp [conj, less_rfl, ren_ldr]) ?_
      rintro ⟨⟩ _
      refine ⟨show 3 ≤ 3 by omega, _, _, _, rfl, rfl, rfl, ?_⟩
      refine goK hB s2_ok rfl rfl (by simp [conj]) ?_
      refine run_callC known_hc named hB [] rfl rfl rfl rfl (by simp [conj]) (by simp [conj, less_rfl, ren_ldr]) ?_
      rintro ⟨⟩ _
      refine ⟨show 0 ≤ 0 by omega, _, _, _, rfl, rfl, rfl, ?_⟩
      refine goK hB s2_ok rfl rfl (by simp [conj]) ?_
      exact run_retC hpin () trivial [0, 1, 2] rfl rfl (by simp [conj]) rfl (by simp [conj, less_rfl])
end Sx
