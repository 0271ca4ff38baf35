/- slices.Equal on bytes, Decode of any bytes. Conditions: as each theorem says. -/
import Derived.Test.YtmnlmghchegjaaaRtc
set_option linter.unusedSimpArgs false
set_option linter.unusedVariables false
namespace Sx
open Go Go.Proofs Classical
set_option maxRecDepth 100000
set_option pp.deepTerms true
set_option pp.maxSteps 10000000
def EqTo (f g : Nat → Int) (n : Nat) : Prop := ∀ i, i < n → f i = g i
theorem equalG_hc (f g : Nat → Int) (n c1 c2 : Nat) (hn : n < 100000000) (off : Nat := 0) :
    HC Try.prog 60 [.sq 0 0 0 1 n .no, .sq 1 off 0 1 n .no] [] [(0, .row 0 n c1 1 (byt f) anyTy), (1, .row off n c2 1 (byt g) anyTy)] 2 (fun _ : Unit => True) (fun _ => ⟨.sb (decide (EqTo f g n)), [], 2⟩) := by
  refine hc_of_run Try.func60 rfl (fun B hB hpin => ?_)
  refine goB hB rfl rfl (by simp [conj]) ?_
  refine run_condF rfl (by simp) ?_
  refine goB hB rfl rfl (by simp [conj]) ?_
  refine run_loop ?_
  refine run_inv (ι := Nat) hpin (fun i => i ≤ n ∧ EqTo f g i) (fun i => n - i) (fun i => [(13, i64 i), (12, i64 n), (0, .sq 0 0 0 1 n .no), (1, .sq 1 off 0 1 n .no), (4, .ff)]) (fun _ => []) (fun _ => []) 2 0 ⟨Nat.zero_le _, fun i hi => absurd hi (Nat.not_lt_zero i)⟩
    [0, 1] rfl rfl (by simp [conj, less_rfl, ren_byt]) ?_
  rintro i ⟨hi, he⟩ ih
  refine goB hB rfl rfl (by simp [conj]) ?_
  refine run_cond rfl (fun h => ?_) (fun h => ?_)
  · have hi1 : i < n := by simpa using h
    refine goB hB rfl rfl (by simp [conj]; omega) ?_
    refine run_cond rfl (fun hb => ?_) (fun hb => ?_)
    · clear ih
      refine goB hB rfl rfl (by simp [conj]) ?_
      refine run_retC hpin () trivial [0, 1] rfl rfl (by simp [conj]) rfl ?_
      have : ¬ EqTo f g n := fun hq => by
        have := hq i hi1
        simp [this] at hb
      simp [conj, less_rfl, ren_byt, this]
    have hb' : f i = g i := by simpa using hb
    have ih := ih (i + 1) ⟨by omega, fun j hj => by
      by_cases e : j = i
      · subst e; exact hb'
      · exact he j (by omega)⟩ (by omega)
    refine goB hB rfl rfl (by simp [conj, Fits_i64]; omega) ?_
    refine run_back ?_
    refine run_to hpin [0, 1] rfl rfl ?_ ih
    clear ih
    simp [conj, less_rfl, ren_byt]
  · clear ih
    have : i = n := by simp at h; omega
    subst this
    refine goB hB rfl rfl (by simp [conj]) ?_
    exact run_retC hpin () trivial [0, 1] rfl rfl (by simp [conj]) rfl (by simp [conj, less_rfl, ren_byt, he])
def nD (g : Nat → Int) : Nat := (numB g 5 2).toNat
def RD (g : Nat → Int) : List Reg := (List.range (nD g)).map fun k => (numB g (24 * (1 + k) + 8) 8, numB g (24 * (1 + k) + 16) 8, decide (g (24 * (1 + k) + 2) = 1))
theorem RD_len (g : Nat → Int) : (RD g).length = nD g := by simp [RD]
theorem RD_at (g : Nat → Int) (k : Nat) (hk : k < nD g) : regD (RD g) k = (numB g (24 * (1 + k) + 8) 8, numB g (24 * (1 + k) + 16) 8, decide (g (24 * (1 + k) + 2) = 1)) := by
  simp [regD, RD, hk]
structure DO where
  G : Int
  T : Int
  p : Bool
  R : List Reg
  e : Int
/-- What Decode gives. -/
noncomputable def decO (g : Nat → Int) (m : Nat) : DO :=
  if m < 24 then ⟨0, 0, false, [], 4⟩ else if m < 24 * (1 + nD g) then ⟨0, 0, false, [], 4⟩ else if 24 * (1 + nD g) < m then ⟨0, 0, false, [], 5⟩
  else if VOk (g 4) (RD g) ∧ EqTo (encI (numB g 0 4) (g 4) (decide (g 9 = 1)) (RD g)) g (24 * (1 + nD g)) then ⟨numB g 0 4, g 4, decide (g 9 = 1), RD g, 0⟩ else ⟨0, 0, false, [], 6⟩
theorem nD_lt {g : Nat → Int} (hg : Bytes8 g) : (nD g : Int) = numB g 5 2 ∧ nD g < 65536 := by
  obtain ⟨a, b⟩ := numB_lt hg 2 5
  unfold nD
  omega
theorem RD_ok {g : Nat → Int} (hg : Bytes8 g) (T : Int) : ROk (numB g 0 4) T (RD g) := by
  obtain ⟨a, b⟩ := numB_lt hg 4 0
  refine ⟨a, by simpa using b, by rw [RD_len]; exact (nD_lt hg).2, fun i hi => ?_⟩
  rw [RD_len] at hi
  rw [RD_at g i hi]
  obtain ⟨c, d⟩ := numB_lt hg 8 (24 * (1 + i) + 8)
  obtain ⟨e, f⟩ := numB_lt hg 8 (24 * (1 + i) + 16)
  exact ⟨c, by simpa using d, e, by simpa using f⟩
theorem getN_hc {g : Nat → Int} (hg : Bytes8 g) (n : Nat) (h1 : 1 ≤ n) (h8 : n ≤ 8) (s N cap : Nat) (hN : s + n ≤ N) (off : Nat := 0) :
    HC Try.prog 59 [.sq 0 off s 1 n .no] [] [(0, .row off N cap 1 (byt g) anyTy)] 1 (fun _ : Unit => True) (fun _ => ⟨u64 (numB g s n), [], 1⟩) := by
  obtain ⟨a, b⟩ := numB_lt hg n s
  exact get_hc (numB g s n) n h1 h8 a (by rw [Int.pow_mul]; exact b) s N cap g hN (fun i hi => (byteOf_numB hg n s i hi).symm) off
def rcGetO (off : Nat) (g : Nat → Int) (N cap s n : Nat) (v : Int) : RC := ⟨59, [.sq 0 off s 1 n .no], [], [(0, .row off N cap 1 (byt g) anyTy)], 1, u64 v, [], 1, [0]⟩
theorem decodeG_hc (g : Nat → Int) (hg : Bytes8 g) (m cap : Nat) (hm : m < 1000000) (off : Nat := 0) :
    HC Try.prog 26 [.sq 0 off 0 1 m .no] [] [(0, .row off m cap 1 (byt g) anyTy)] 1 (fun _ : Unit => True)
      (fun _ => ⟨.tup [rep (decO g m).G (decO g m).T (decO g m).p 1 (decO g m).R.length .own, i64 (decO g m).e], [(1, .row 0 (decO g m).R.length (decO g m).R.length 3 (regR (decO g m).R) 82)], 2⟩) := by
  obtain ⟨hn1, hn2⟩ := nD_lt hg
  refine hc_of_run Try.func26 rfl (fun B hB hpin => ?_)
  refine goB hB rfl rfl (by simp [conj]) ?_
  refine run_cond rfl (fun h => ?_) (fun h => ?_)
  · have h' : m < 24 := by simp at h; omega
    have ho : decO g m = ⟨0, 0, false, [], 4⟩ := by unfold decO; rw [if_pos h']
    rw [ho]
    refine goB hB rfl rfl (by simp [conj]) ?_
    refine run_retC hpin () trivial [0, 9] rfl rfl (by simp [conj]) rfl ?_
    simp [conj, less_rfl, ren_byt]
  have h24 : ¬ m < 24 := by simp at h; omega
  refine goB hB rfl rfl (by simp [conj]; omega) ?_
  refine run_callC (getN_hc hg 2 (by decide) (by decide) 5 m cap (by omega) off) named hB [0] rfl rfl rfl rfl (by simp [conj]) (by simp [conj, less_rfl, ren_byt]) ?_
  rintro ⟨⟩ _
  refine ⟨show 1 ≤ 1 by omega, _, _, _, rfl, rfl, rfl, ?_⟩
  have hw := wrapI (numB g 5 2) (by omega) (by omega)
  refine goB hB rfl rfl (by simp [conj, Fits_i64, hw]; omega) ?_
  rw [hw, ← hn1]
  refine run_cond rfl (fun h => ?_) (fun h => ?_)
  · have h' : m < 24 * (1 + nD g) := by simp at h; omega
    have ho : decO g m = ⟨0, 0, false, [], 4⟩ := by unfold decO; rw [if_neg h24, if_pos h']
    rw [ho]
    refine goB hB rfl rfl (by simp [conj]) ?_
    refine run_retC hpin () trivial [0, 9] rfl rfl (by simp [conj]) rfl ?_
    simp [conj, less_rfl, ren_byt]
  have hs : ¬ m < 24 * (1 + nD g) := by simp at h; omega
  refine goB hB rfl rfl (by simp [conj, Fits_i64]; try omega) ?_
  refine run_cond rfl (fun h => ?_) (fun h => ?_)
  · have h' : 24 * (1 + nD g) < m := by simp at h; omega
    have ho : decO g m = ⟨0, 0, false, [], 5⟩ := by unfold decO; rw [if_neg h24, if_neg hs, if_pos h']
    rw [ho]
    refine goB hB rfl rfl (by simp [conj]) ?_
    refine run_retC hpin () trivial [0, 9] rfl rfl (by simp [conj]) rfl ?_
    simp [conj, less_rfl, ren_byt]
  have hl : ¬ 24 * (1 + nD g) < m := by simp at h; omega
  have hme : m = 24 * (1 + nD g) := by omega
  refine goB hB rfl rfl (by simp [conj, Fits_i64]; try omega) ?_
  refine run_draw0 mixed (fun t => ?_)
  refine run_drawC (M := modeB) 1 15 rfl named hB (sumOk_nil _) [(4, rcGetO off g m cap 0 4 (numB g 0 4))] ⟨⟨getN_hc hg 4 (by decide) (by decide) 0 m cap (by omega) off, rfl, Nat.le_refl _⟩, trivial⟩ rfl rfl rfl rfl rfl rfl ?_ (fun t => ?_)
  · simp [conj, less_rfl, SO.Live, ren_byt]
    omega
  refine run_drawE rfl ?_
  refine goB hB rfl rfl (by simp [conj]) ?_
  have hg4 := hg 4
  have h4 : IntKind.i64.wrap (g (0 + Int.toNat 4)) = g 4 := wrapI (g 4) hg4.1 (by omega)
  have h9 : g (0 + Int.toNat 9) = g 9 := rfl
  obtain ⟨q1, q2⟩ := numB_lt hg 4 0
  have hG := wrap32 (numB g 0 4) q1 (by simpa using q2)
  rw [h4, h9, hG]
  have hR : ∀ T, ROk (numB g 0 4) T (RD g) := RD_ok hg
  have hRl := RD_len g
  refine run_loop ?_
  refine run_inv (ι := Nat) hpin (fun k => k ≤ nD g) (fun k => nD g - k) (fun k => [(46, i64 k), (45, i64 (nD g)), (6, .ptr 1 0), (0, .sq 0 off 0 1 m .no), (2, .ptr 2 0), (3, i64 0)]) (fun _ => []) (fun k => [(1, .cells (repL (numB g 0 4) (g 4) (decide (g 9 = 1)) 3 k .own) 67), (2, .cells [.int .u32 0, i64 0, .ff, .nilsl] 67), (3, .row 0 k k 3 (regR (RD g)) 82)]) 4 0 (Nat.zero_le _)
    [0, 15, 1, 17] rfl rfl (by simp [conj, less_rfl, ren_regR, ren_byt, renR_byt]) ?_
  intro k hk ih
  refine goB hB rfl rfl (by simp [conj]) ?_
  refine run_cond rfl (fun h => ?_) (fun h => ?_)
  · have hk1 : k < nD g := by simpa using h
    have ih := ih (k + 1) (by omega) (by omega)
    refine goB hB rfl rfl (by simp [conj, Fits_i64]; omega) ?_
    have e1 : (24 * (1 + (k : Int))).toNat = 24 * (1 + k) := by omega
    rw [e1]
    refine run_draw0 mixed (fun t => ?_)
    refine run_drawC (M := modeB) 1 17 rfl named hB (sumOk_nil _) [(8, rcGetO off g m cap (24 * (1 + k) + 8) 8 (numB g (24 * (1 + k) + 8) 8)), (11, rcGetO off g m cap (24 * (1 + k) + 16) 8 (numB g (24 * (1 + k) + 16) 8))]
      ⟨⟨getN_hc hg 8 (by decide) (by decide) (24 * (1 + k) + 8) m cap (by omega) off, rfl, Nat.le_refl _⟩,
       ⟨getN_hc hg 8 (by decide) (by decide) (24 * (1 + k) + 16) m cap (by omega) off, rfl, Nat.le_refl _⟩, trivial⟩ rfl rfl rfl rfl rfl rfl ?_ (fun t => ?_)
    · simp [conj, less_rfl, SO.Live, ren_byt]
      repeat' apply And.intro
      all_goals first | omega | exact .inl (by omega)
    refine run_drawE rfl ?_
    refine goB hB rfl rfl (by simp [conj, Fits_i64]; try omega) ?_
    have hr := RD_at g k hk1
    have h2 : decide (g (0 + 24 * (1 + k) + Int.toNat 2) = 1) = (regD (RD g) k).2.2 := by
      rw [hr, Nat.zero_add]; rfl
    rw [h2]
    refine run_back ?_
    refine run_to hpin [0, 1, 2, 18] rfl rfl ?_ ih
    clear ih
    simp [conj, less_rfl, ren_regR, renR_regR, ren_byt]
    intro i c hi hc
    refine Less.of ?_
    unfold appF
    by_cases e : i < k
    · rw [blt_true e]; rfl
    · have e2 : i = k := by omega
      subst e2
      rw [blt_false e]
      match c, hc with
      | 0, _ => simp [regR, hr]
      | 1, _ => simp [regR, hr]
      | 2, _ => simp [regR, hr]
  · clear ih
    have : k = nD g := by simp at h; omega
    subst this
    refine goB hB rfl rfl (by simp [conj]) ?_
    have hvG := validG_hc (numB g 0 4) (g 4) (decide (g 9 = 1)) (RD g) (by omega) ((Fits_i64 _).2 ⟨by omega, by omega⟩) (nD g)
    have hE := encode_hc (numB g 0 4) (g 4) (decide (g 9 = 1)) (RD g) (hR _) (nD g)
    rw [hRl] at hvG hE
    refine run_callC hvG named hB [3] rfl rfl rfl rfl (by simp [conj]) (by simp [conj, less_rfl, ren_regR]) ?_
    rintro ⟨⟩ _
    refine ⟨show 1 ≤ 1 by omega, _, _, _, rfl, rfl, rfl, ?_⟩
    by_cases hv : VOk (g 4) (RD g)
    · refine run_tt (by simpa using hv) ?_
      refine goB hB rfl rfl (by simp [conj]) ?_
      refine run_callC hE named hB [3] rfl rfl rfl rfl (by simp [conj]) (by simp [conj, less_rfl, ren_regR]) ?_
      rintro ⟨⟩ _
      refine ⟨show 1 ≤ 2 by omega, _, _, _, rfl, rfl, rfl, ?_⟩
      subst hme
      refine goB hB rfl rfl (by simp [conj]) ?_
      refine run_callC (equalG_hc (encI (numB g 0 4) (g 4) (decide (g 9 = 1)) (RD g)) g (24 * (1 + nD g)) (24 * (1 + nD g)) cap (by omega) off) named hB [4, 0] rfl rfl rfl rfl (by simp [conj]) (by simp [conj, less_rfl, ren_byt, renR_byt]) ?_
      rintro ⟨⟩ _
      refine ⟨show 2 ≤ 2 by omega, _, _, _, rfl, rfl, rfl, ?_⟩
      by_cases he : EqTo (encI (numB g 0 4) (g 4) (decide (g 9 = 1)) (RD g)) g (24 * (1 + nD g))
      · have ho : decO g (24 * (1 + nD g)) = ⟨numB g 0 4, g 4, decide (g 9 = 1), RD g, 0⟩ := by unfold decO; rw [if_neg h24, if_neg hs, if_neg hl, if_pos ⟨hv, he⟩]
        rw [ho]
        refine run_tt (by simpa using he) ?_
        refine goB hB rfl rfl (by simp [conj]) ?_
        refine run_retC hpin () trivial [0, 3] rfl rfl (by simp [conj]) rfl ?_
        simp [conj, less_rfl, ren_byt, ren_regR, renR_regR, hRl]
      · have ho : decO g (24 * (1 + nD g)) = ⟨0, 0, false, [], 6⟩ := by unfold decO; rw [if_neg h24, if_neg hs, if_neg hl, if_neg (fun q => he q.2)]
        rw [ho]
        refine run_ff (by simpa using he) ?_
        refine goB hB rfl rfl (by simp [conj]) ?_
        refine run_retC hpin () trivial [0, 9] rfl rfl (by simp [conj]) rfl ?_
        simp [conj, less_rfl, ren_byt, ren_regR, renR_regR]
    · have ho : decO g m = ⟨0, 0, false, [], 6⟩ := by unfold decO; rw [if_neg h24, if_neg hs, if_neg hl, if_neg (fun q => hv q.1)]
      rw [ho]
      refine run_ff (by simpa using hv) ?_
      refine goB hB rfl rfl (by simp [conj]) ?_
      refine run_retC hpin () trivial [0, 9] rfl rfl (by simp [conj]) rfl ?_
      simp [conj, less_rfl, ren_byt, ren_regR, renR_regR]
end Sx
