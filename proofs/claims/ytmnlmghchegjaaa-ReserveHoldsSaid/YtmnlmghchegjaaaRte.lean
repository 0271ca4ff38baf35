/- The reference's Decode of any bytes. Conditions: as each theorem says. -/
import Derived.Test.YtmnlmghchegjaaaRtd
import Derived.Test.YtmnlmghchegjaaaRtf
import Derived.Laws.BytesArg
set_option linter.unusedSimpArgs false
set_option linter.unusedVariables false
namespace Sx
open Go Go.Proofs Classical
set_option maxRecDepth 100000
set_option pp.deepTerms true
set_option pp.maxSteps 10000000
theorem strOf_list (F : Nat → Nat → SV) (s n : Nat) : (strOf F s n).toList = (List.range n).map fun a => UInt8.ofNat (intOf (F (s + a) 0)).toNat := by
  unfold strOf
  rw [ByteArray.toList_eq, foldl_push_bytes]
  have e : (ByteArray.empty.data : Array UInt8) = #[] := rfl
  rw [e, List.map_map]
  simp only [Array.toList_append, List.nil_append, Function.comp_def]
theorem u8_inj {x y : Int} (hx : 0 ≤ x ∧ x < 256) (hy : 0 ≤ y ∧ y < 256) (h : UInt8.ofNat x.toNat = UInt8.ofNat y.toNat) : x = y := by
  have h1 := congrArg UInt8.toNat h
  simp at h1
  omega
theorem str_eq {f g : Nat → Int} (n : Nat) (hf : ∀ i, i < n → 0 ≤ f i ∧ f i < 256) (hg : ∀ i, i < n → 0 ≤ g i ∧ g i < 256) : ((strOf (byt f) 0 n).toList == (strOf (byt g) 0 n).toList) = decide (EqTo f g n) := by
  rw [strOf_list, strOf_list, Bool.eq_iff_iff, beq_iff_eq, decide_eq_true_iff]
  simp only [List.map_inj_left, List.mem_range, Nat.zero_add]
  exact ⟨fun h i hi => u8_inj (hf i hi) (hg i hi) (h i hi), fun h i hi => by
    show UInt8.ofNat (f i).toNat = UInt8.ofNat (g i).toNat
    rw [h i hi]⟩
theorem byteOf_lt (v : Int) (i : Nat) : 0 ≤ byteOf v i ∧ byteOf v i < 256 := by unfold byteOf; omega
theorem flagI_lt (b : Bool) : 0 ≤ flagI b ∧ flagI b < 256 := by cases b <;> decide
theorem encI_lt (G T : Int) (p : Bool) (R : List Reg) (i : Nat) : 0 ≤ encI G T p R i ∧ encI G T p R i < 256 := by
  have a1 := byteOf_lt G i
  have a2 := flagI_lt p
  have a3 := byteOf_lt R.length (i - 5)
  have a4 := flagI_lt (regD R (i / 24 - 1)).2.2
  have a5 := byteOf_lt (regD R (i / 24 - 1)).1 (i % 24 - 8)
  have a6 := byteOf_lt (regD R (i / 24 - 1)).2.1 (i % 24 - 16)
  unfold encI hdI entI
  repeat' split
  all_goals omega
theorem hc_r {P : Program} {f : FuncId} {xs : List SV} {hp ro hp' : Hp} {nx nx' : Nat} {r r' : SV} (h : HC P f xs hp ro nx (fun _ : Unit => True) (fun _ => ⟨r, hp', nx'⟩)) (hr : ∀ β u, Rel β r u → Rel β r' u) : HC P f xs hp ro nx (fun _ : Unit => True) (fun _ => ⟨r', hp', nx'⟩) :=
  fun B β w vs hB hl hs => (h B β w vs hB hl hs).mono fun e w' ⟨z, β', u, h1, h2, h3, h4, h5⟩ => ⟨z, β', u, h1, h2, h3, hr _ _ h4, h5⟩
theorem hc_tt {P : Program} {f : FuncId} {xs : List SV} {hp ro hp' : Hp} {nx nx' : Nat} {b : Bool} (h : HC P f xs hp ro nx (fun _ : Unit => True) (fun _ => ⟨.sb b, hp', nx'⟩)) (hb : b = true) : HC P f xs hp ro nx (fun _ : Unit => True) (fun _ => ⟨.tt, hp', nx'⟩) :=
  hc_r h fun β u hu => by subst hb; exact hu
theorem hc_ff {P : Program} {f : FuncId} {xs : List SV} {hp ro hp' : Hp} {nx nx' : Nat} {b : Bool} (h : HC P f xs hp ro nx (fun _ : Unit => True) (fun _ => ⟨.sb b, hp', nx'⟩)) (hb : b = false) : HC P f xs hp ro nx (fun _ : Unit => True) (fun _ => ⟨.ff, hp', nx'⟩) :=
  hc_r h fun β u hu => by subst hb; exact hu
def rcVal (G T : Int) (p : Bool) (R : List Reg) (n cap i : Nat) (r : SV) (off : Nat := 0) : RC := ⟨28, [rep G T p 0 n .no off], [], [(0, .row off n cap 3 (regR R) anyTy)], 1, r, [], 1, [i]⟩
def rcByt (G T : Int) (p : Bool) (R : List Reg) (n cap i : Nat) (off : Nat := 0) : RC := ⟨29, [rep G T p 0 n .no off], [], [(0, .row off n cap 3 (regR R) anyTy)], 1, .sq 1 0 0 1 (24 * (1 + n)) .own, [(1, .row 0 (24 * (1 + n)) (24 * (1 + n)) 1 (byt (encI G T p R)) 5)], 2, [i]⟩
def rcNum (off : Nat) (g : Nat → Int) (N cap s n : Nat) : RC := ⟨61, [.sq 0 off s 1 n .no], [], [(0, .row off N cap 1 (byt g) anyTy)], 1, u64 (numB g s n), [], 1, [0]⟩
theorem decodeR_hc (g : Nat → Int) (hg : Bytes8 g) (m cap : Nat) (hm : m < 1000000) (off : Nat := 0) :
    HC Try.prog 27 [.sq 0 off 0 1 m .no] [] [(0, .row off m cap 1 (byt g) anyTy)] 1 (fun _ : Unit => True)
      (fun _ => ⟨.tup [rep (decO g m).G (decO g m).T (decO g m).p 1 (decO g m).R.length .own, i64 (decO g m).e], [(1, .row 0 (decO g m).R.length (decO g m).R.length 3 (regR (decO g m).R) 82)], 2⟩) := by
  obtain ⟨hn1, hn2⟩ := nD_lt hg
  refine hc_of_run Try.func27 rfl (fun B hB hpin => ?_)
  refine goV2 hB rfl rfl (by simp [conj]) ?_
  refine run_cond rfl (fun h => ?_) (fun h => ?_)
  · have h' : m < 24 := by simp at h; omega
    have ho : decO g m = ⟨0, 0, false, [], 4⟩ := by unfold decO; rw [if_pos h']
    rw [ho]
    refine goV2 hB rfl rfl (by simp [conj]) ?_
    refine run_retC hpin () trivial [0, 9] rfl rfl (by simp [conj]) rfl ?_
    simp [conj, less_rfl, ren_byt]
  have h24 : ¬ m < 24 := by simp at h; omega
  refine goV2 hB rfl rfl (by simp [conj]; omega) ?_
  refine run_callC (number_hc g hg 5 2 m cap (by decide) (by omega) off) named hB [0] rfl rfl rfl rfl (by simp [conj]) (by simp [conj, less_rfl, ren_byt]) ?_
  rintro ⟨⟩ _
  refine ⟨show 1 ≤ 1 by omega, _, _, _, rfl, rfl, rfl, ?_⟩
  have hw := wrapI (numB g 5 2) (by omega) (by omega)
  refine goV2 hB rfl rfl (by simp [conj, Fits_i64, hw]; omega) ?_
  rw [hw, ← hn1]
  refine run_cond rfl (fun h => ?_) (fun h => ?_)
  · have h' : m < 24 * (1 + nD g) := by simp at h; omega
    have ho : decO g m = ⟨0, 0, false, [], 4⟩ := by unfold decO; rw [if_neg h24, if_pos h']
    rw [ho]
    refine goV2 hB rfl rfl (by simp [conj]) ?_
    refine run_retC hpin () trivial [0, 9] rfl rfl (by simp [conj]) rfl ?_
    simp [conj, less_rfl, ren_byt]
  have hs : ¬ m < 24 * (1 + nD g) := by simp at h; omega
  refine goV2 hB rfl rfl (by simp [conj, Fits_i64]; try omega) ?_
  refine run_cond rfl (fun h => ?_) (fun h => ?_)
  · have h' : 24 * (1 + nD g) < m := by simp at h; omega
    have ho : decO g m = ⟨0, 0, false, [], 5⟩ := by unfold decO; rw [if_neg h24, if_neg hs, if_pos h']
    rw [ho]
    refine goV2 hB rfl rfl (by simp [conj]) ?_
    refine run_retC hpin () trivial [0, 9] rfl rfl (by simp [conj]) rfl ?_
    simp [conj, less_rfl, ren_byt]
  have hl : ¬ 24 * (1 + nD g) < m := by simp at h; omega
  have hme : m = 24 * (1 + nD g) := by omega
  refine goV2 hB rfl rfl (by simp [conj, Fits_i64]; try omega) ?_
  refine run_draw0 mixed (fun t => ?_)
  obtain ⟨q1, q2⟩ := numB_lt hg 4 0
  refine run_drawC (M := modeV) 1 18 rfl named hB (sumOk_nil _) [(5, rcNum off g m cap 0 4)] ⟨⟨number_hc g hg 0 4 m cap (by decide) (by omega) off, rfl, Nat.le_refl _⟩, trivial⟩ rfl rfl rfl rfl rfl rfl ?_ (fun t => ?_)
  · simp [conj, less_rfl, SO.Live, ren_byt]
    omega
  refine run_drawE rfl ?_
  refine goV2 hB rfl rfl (by simp [conj]) ?_
  have hg4 := hg 4
  have h4 : IntKind.i64.wrap (g (0 + Int.toNat 4)) = g 4 := wrapI (g 4) hg4.1 (by omega)
  have h9 : g (0 + Int.toNat 9) = g 9 := rfl
  have hG := wrap32 (numB g 0 4) q1 (by simpa using q2)
  rw [h4, h9, hG]
  have hR : ∀ T, ROk (numB g 0 4) T (RD g) := RD_ok hg
  have hRl := RD_len g
  refine run_loop ?_
  refine run_inv (ι := Nat) hpin (fun k => k ≤ nD g) (fun k => nD g - k) (fun k => [(6, i64 k), (5, i64 (nD g)), (4, .ptr 2 0), (0, .sq 0 off 0 1 m .no), (2, .ptr 1 0), (3, i64 0)]) (fun _ => []) (fun k => [(2, .cells (repL (numB g 0 4) (g 4) (decide (g 9 = 1)) 3 k .own) 67), (1, .cells [.int .u32 0, i64 0, .ff, .nilsl] 67), (3, .row 0 k k 3 (regR (RD g)) 82)]) 4 0 (Nat.zero_le _)
    [0, 1, 2, 21] rfl rfl (by simp [conj, less_rfl, ren_regR, ren_byt, renR_byt]) ?_
  intro k hk ih
  refine goV2 hB rfl rfl (by simp [conj]) ?_
  refine run_cond rfl (fun h => ?_) (fun h => ?_)
  · have hk1 : k < nD g := by simpa using h
    have ih := ih (k + 1) (by omega) (by omega)
    refine goV2 hB rfl rfl (by simp [conj, Fits_i64]; omega) ?_
    have e1 : (24 + 24 * (k : Int)).toNat = 24 * (1 + k) := by omega
    have e2 : (48 + 24 * (k : Int)).toNat - (24 + 24 * (k : Int)).toNat = 24 := by omega
    rw [e2, e1]
    refine run_draw0 mixed (fun t => ?_)
    refine run_drawC (M := modeV) 1 17 rfl named hB (sumOk_nil _) [(8, rcNum off g m cap (24 * (1 + k) + 8) 8), (11, rcNum off g m cap (24 * (1 + k) + 16) 8)]
      ⟨⟨number_hc g hg (24 * (1 + k) + 8) 8 m cap (by decide) (by omega) off, rfl, Nat.le_refl _⟩,
       ⟨number_hc g hg (24 * (1 + k) + 16) 8 m cap (by decide) (by omega) off, rfl, Nat.le_refl _⟩, trivial⟩ rfl rfl rfl rfl rfl rfl ?_ (fun t => ?_)
    · simp [conj, less_rfl, SO.Live, ren_byt]
      repeat' apply And.intro
      all_goals first | omega | exact .inl (by omega)
    refine run_drawE rfl ?_
    refine goV2 hB rfl rfl (by simp [conj, Fits_i64]; try omega) ?_
    have hr := RD_at g k hk1
    have h2 : decide (g (0 + 24 * (1 + k) + Int.toNat 2) = 1) = (regD (RD g) k).2.2 := by
      rw [hr, Nat.zero_add]; rfl
    rw [h2]
    refine run_back ?_
    refine run_to hpin [0, 1, 2, 18] rfl rfl ?_ ih
    clear ih
    simp [conj, less_rfl, ren_regR, renR_regR, ren_byt]
    intro i c hi hc
    refine Less.of ?_
    unfold appF
    by_cases e : i < k
    · rw [blt_true e]; rfl
    · have e2 : i = k := by omega
      subst e2
      rw [blt_false e]
      match c, hc with
      | 0, _ => simp [regR, hr]
      | 1, _ => simp [regR, hr]
      | 2, _ => simp [regR, hr]
  · clear ih
    have : k = nD g := by simp at h; omega
    subst this
    refine goV2 hB rfl rfl (by simp [conj]) ?_
    have hvR := validR_hc (numB g 0 4) (g 4) (decide (g 9 = 1)) (RD g) (by omega) ((Fits_i64 _).2 ⟨by omega, by omega⟩) (fun i hi => ((hR 0).k i hi).1) (nD g)
    have hE := bytes_hc (numB g 0 4) (g 4) (decide (g 9 = 1)) (RD g) (hR _) (nD g)
    rw [hRl] at hvR hE
    refine run_draw0 mixed (fun t => ?_)
    by_cases hv : VOk (g 4) (RD g)
    · by_cases hz : nD g = 0
      · have hRe : RD g = [] := List.eq_nil_of_length_eq_zero (by rw [hRl, hz])
        have hT : g 4 = 0 := by
          have := hv.one
          have h5 := hv.all
          rw [hRe] at this h5
          simp [cntH] at this h5
          omega
        have hvT := hc_tt (validR0x_hc (numB g 0 4) (g 4) (decide (g 9 = 1)) 3 ((Fits_i64 _).2 ⟨by omega, by omega⟩)) (by simpa using hT)
        have hE0 := bytes0_hc (numB g 0 4) (g 4) (decide (g 9 = 1)) 3 q1 (by simpa using q2)
        have hm24 : m = 24 := by omega
        rw [hz]
        refine run_drawC (M := modeV) 1 11 rfl named hB (sumOk_nil _) [(5, rcVal0 (numB g 0 4) (g 4) (decide (g 9 = 1)) 3 .tt), (9, rcByt0 (numB g 0 4) (g 4) (decide (g 9 = 1)) 3)] ⟨⟨hvT, rfl, Nat.le_refl _⟩, ⟨hE0, rfl, by show 0 ≤ 1; omega⟩, trivial⟩ rfl rfl rfl rfl rfl rfl ?_ (fun t => ?_)
        · simp [conj, less_rfl, SO.Live, ren_byt, ren_regR, renR_byt]
          repeat' apply And.intro
          all_goals first | omega | (intro a _; exact ⟨_, rfl⟩) | exact .inl (by omega)
        refine run_drawE rfl ?_
        subst hm24
        have hse := str_eq (f := encI (numB g 0 4) (g 4) (decide (g 9 = 1)) []) (g := g) 24 (fun i _ => encI_lt _ _ _ _ i) (fun i _ => hg i)
        simp only [renR_byt]
        refine goV2 hB rfl rfl (by simp [conj]) ?_
        by_cases he : EqTo (encI (numB g 0 4) (g 4) (decide (g 9 = 1)) []) g 24
        · have ho : decO g 24 = ⟨numB g 0 4, g 4, decide (g 9 = 1), [], 0⟩ := by unfold decO; rw [if_neg h24, if_neg hs, if_neg hl, hRe, hz, if_pos ⟨hRe ▸ hv, he⟩]
          rw [ho]
          refine run_ff (by rw [hse]; simp [he]) ?_
          refine goV2 hB rfl rfl (by simp [conj]) ?_
          refine run_retC hpin () trivial [0, 3] rfl rfl (by simp [conj]) rfl ?_
          simp [conj, less_rfl, ren_byt, ren_regR, renR_regR, hRl]
        · have ho : decO g 24 = ⟨0, 0, false, [], 6⟩ := by unfold decO; rw [if_neg h24, if_neg hs, if_neg hl, hRe, hz, if_neg (fun q => he q.2)]
          rw [ho]
          refine run_tt (by rw [hse]; simp [he]) ?_
          refine goV2 hB rfl rfl (by simp [conj]) ?_
          refine run_retC hpin () trivial [0, 29] rfl rfl (by simp [conj]) rfl ?_
          simp [conj, less_rfl, ren_byt, ren_regR, renR_regR]
      have hvT := hc_tt hvR (by simpa using hv)
      subst hme
      refine run_drawC (M := modeV) 1 11 rfl named hB (sumOk_nil _) [(5, rcVal (numB g 0 4) (g 4) (decide (g 9 = 1)) (RD g) (nD g) (nD g) 3 .tt), (9, rcByt (numB g 0 4) (g 4) (decide (g 9 = 1)) (RD g) (nD g) (nD g) 3)] ⟨⟨hvT, rfl, Nat.le_refl _⟩, ⟨hE, rfl, by show 1 ≤ 2; omega⟩, trivial⟩ rfl rfl rfl rfl rfl rfl ?_ (fun t => ?_)
      · simp [conj, less_rfl, SO.Live, ren_byt, ren_regR, renR_byt]
        repeat' apply And.intro
        all_goals first | omega | (intro a _; exact ⟨_, rfl⟩) | exact .inl (by omega)
      refine run_drawE rfl ?_
      have hse := str_eq (f := encI (numB g 0 4) (g 4) (decide (g 9 = 1)) (RD g)) (g := g) (24 * (1 + nD g)) (fun i _ => encI_lt _ _ _ _ i) (fun i _ => hg i)
      simp only [renR_byt]
      refine goV2 hB rfl rfl (by simp [conj]) ?_
      by_cases he : EqTo (encI (numB g 0 4) (g 4) (decide (g 9 = 1)) (RD g)) g (24 * (1 + nD g))
      · have ho : decO g (24 * (1 + nD g)) = ⟨numB g 0 4, g 4, decide (g 9 = 1), RD g, 0⟩ := by unfold decO; rw [if_neg h24, if_neg hs, if_neg hl, if_pos ⟨hv, he⟩]
        rw [ho]
        refine run_ff (by rw [hse]; simp [he]) ?_
        refine goV2 hB rfl rfl (by simp [conj]) ?_
        refine run_retC hpin () trivial [0, 3] rfl rfl (by simp [conj]) rfl ?_
        simp [conj, less_rfl, ren_byt, ren_regR, renR_regR, hRl]
      · have ho : decO g (24 * (1 + nD g)) = ⟨0, 0, false, [], 6⟩ := by unfold decO; rw [if_neg h24, if_neg hs, if_neg hl, if_neg (fun q => he q.2)]
        rw [ho]
        refine run_tt (by rw [hse]; simp [he]) ?_
        refine goV2 hB rfl rfl (by simp [conj]) ?_
        refine run_retC hpin () trivial [0, 29] rfl rfl (by simp [conj]) rfl ?_
        simp [conj, less_rfl, ren_byt, ren_regR, renR_regR]
    · have ho : decO g m = ⟨0, 0, false, [], 6⟩ := by unfold decO; rw [if_neg h24, if_neg hs, if_neg hl, if_neg (fun q => hv q.1)]
      rw [ho]
      by_cases hz : nD g = 0
      · have hRe : RD g = [] := List.eq_nil_of_length_eq_zero (by rw [hRl, hz])
        have hT : g 4 ≠ 0 := fun h => hv (by
          rw [hRe, h]
          exact ⟨fun i hi => absurd hi (Nat.not_lt_zero i), by decide, by decide, by decide, fun h => absurd h (by decide), fun _ => by simp [cntH]; decide⟩)
        have hvF := hc_ff (validR0x_hc (numB g 0 4) (g 4) (decide (g 9 = 1)) 3 ((Fits_i64 _).2 ⟨by omega, by omega⟩)) (by simpa using hT)
        rw [hz]
        refine run_drawC (M := modeV) 1 11 rfl named hB (sumOk_nil _) [(5, rcVal0 (numB g 0 4) (g 4) (decide (g 9 = 1)) 3 .ff)] ⟨⟨hvF, rfl, Nat.le_refl _⟩, trivial⟩ rfl rfl rfl rfl rfl rfl ?_ (fun t => ?_)
        · simp [conj, less_rfl, SO.Live, ren_byt, ren_regR, renR_byt]
        refine run_drawE rfl ?_
        refine goV2 hB rfl rfl (by simp [conj]) ?_
        refine run_retC hpin () trivial [0, 29] rfl rfl (by simp [conj]) rfl ?_
        simp [conj, less_rfl, ren_byt, ren_regR, renR_regR]
      have hvF := hc_ff hvR (by simpa using hv)
      refine run_drawC (M := modeV) 1 11 rfl named hB (sumOk_nil _) [(5, rcVal (numB g 0 4) (g 4) (decide (g 9 = 1)) (RD g) (nD g) (nD g) 3 .ff)] ⟨⟨hvF, rfl, Nat.le_refl _⟩, trivial⟩ rfl rfl rfl rfl rfl rfl ?_ (fun t => ?_)
      · simp [conj, less_rfl, SO.Live, ren_byt, ren_regR, renR_byt]
        omega
      refine run_drawE rfl ?_
      refine goV2 hB rfl rfl (by simp [conj]) ?_
      refine run_retC hpin () trivial [0, 29] rfl rfl (by simp [conj]) rfl ?_
      simp [conj, less_rfl, ren_byt, ren_regR, renR_regR]
end Sx
