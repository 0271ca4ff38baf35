/- New, set. Conditions: as each theorem says. -/
import Derived.Test.YtdphonnleoklgaaMa
import Derived.Test.YtdphonnleoklgaaMb
import Derived.Test.YtdphonnleoklgaaEngX5
set_option linter.unusedSimpArgs false
set_option linter.unusedVariables false
namespace Sx
open Go Go.Proofs
set_option maxRecDepth 100000
def cntF (L : Ld) (P : Int) : Nat → Nat → SV := fun i _ => i64 (cnt L P i)
theorem ren_cntF (nx : Nat) (sg : List Nat) (L : Ld) (P : Int) (i j : Nat) : ren nx sg (cntF L P i j) = cntF L P i j := by simp only [cntF, ren, renF, id]
theorem renR_cntF (nx : Nat) (sg : List Nat) (L : Ld) (P : Int) : renR nx sg (cntF L P) = cntF L P := by funext i j; exact ren_cntF nx sg L P i j
abbrev mpN (S Bk P : Int) (L : Ld) (a b c d : Nat) : Hp := [(a, .cells [i64 S, i64 Bk, i64 P, .mp b, .mp c, .sq d 0 0 1 Bk.toNat .own] 61), (b, .map .i64 (hasS L) (.ints .i64 (pgS L))), (c, .map .i64 (hasP L) (.ints .i64 (scP L))), (d, .row 0 Bk.toNat Bk.toNat 1 (cntF L P) 3)]
abbrev mpH (S Bk P : Int) (L : Ld) : Hp := mpN S Bk P L 0 1 2 3
def okN (S Bk P : Int) : Bool := !(decide (S < 1) || decide (16777216 < S) || decide (Bk < 2) || decide (4096 < Bk) || decide (P < 2) || decide (512 < P))
theorem okN_iff {S Bk P : Int} : okN S Bk P = true ↔ 1 ≤ S ∧ S ≤ 16777216 ∧ 2 ≤ Bk ∧ Bk ≤ 4096 ∧ 2 ≤ P ∧ P ≤ 512 := by
  simp [okN]; omega
theorem new_ok (S Bk P : Int) (h : okN S Bk P = true) : HC Try.prog 8 [i64 S, i64 Bk, i64 P] [] [] 0 (fun _ : Unit => True) (fun _ => ⟨.tup [.ptr 0 0, i64 0], mpH S Bk P [], 4⟩) := by
  have h' := okN_iff.1 h
  refine hc_of_run Try.func8 rfl (fun B hB hpin => ?_)
  refine goK hB rfl rfl (by simp [conj]) ?_
  refine run_condF rfl (by simpa [okN] using h) ?_
  refine goK hB rfl rfl (by simp [conj]; omega) ?_
  refine run_retC hpin () trivial [3, 0, 1, 2] rfl rfl (by simp [conj]) rfl ?_
  simp [conj, less_rfl, ren_cntF, hasS, hasP]
  exact fun i _ => Less.rfl
theorem new_bad (S Bk P : Int) (h : okN S Bk P = false) : HC Try.prog 8 [i64 S, i64 Bk, i64 P] [] [] 0 (fun _ : Unit => True) (fun _ => ⟨.tup [.nil, i64 2], [], 0⟩) := by
  refine hc_of_run Try.func8 rfl (fun B hB hpin => ?_)
  refine goK hB rfl rfl (by simp [conj]) ?_
  refine run_condT rfl (by unfold okN at h; exact Bool.not_eq_false' .. |>.mp h) ?_
  refine goK hB rfl rfl (by simp [conj]) ?_
  exact run_retC hpin () trivial [] rfl rfl (by simp [conj]) rfl (by simp [conj, less_rfl])
def modeM : Mode := { st := true, unr := false, inl := fun f => !hasN f cf, sum := sumOf s2, keep := fun _ => none }
theorem goM {B : Base} (hB : B.ok) {ro : Hp} {f : FuncId} {R : Ending → World → Prop} {cs0 cs : List Prop} {c c0 c' : Cfg} (h0 : stepD Try.prog modeM ro c = some (cs0, c0)) (h : execG Try.prog modeM ro 400 cs0 c0 = (cs, c')) (hc : conj cs)
    (hr : Run Try.prog ro B f R c') : Run Try.prog ro B f R c := run_go mixed named hB s2_ok 400 h0 h hc hr
theorem goY {B : Base} (hB : B.ok) {ro : Hp} {f : FuncId} {R : Ending → World → Prop} (S : List (Nat × Nat)) (m : Nat) {cs : List Prop} {c c' : Cfg} (h : execY Try.prog modeM ro S m [] c = (cs, c')) (hc : conj cs)
    (hr : Run Try.prog ro B f R c') : Run Try.prog ro B f R c := run_goY mixed named hB s2_ok S m h hc hr
def fits1 (S Bk P : Int) (x : Int × Int) : Bool := fitsB S Bk P x.1 x.2
theorem fits_iff {S Bk P : Int} {x : Int × Int} : fits1 S Bk P x = true ↔ inR S (Bk * P) x := by
  simp [fits1, fitsB, inR]; omega
theorem cnt_dec {S T : Int} {L : Ld} (h : MInv S T L) (s P b : Int) (hs : hasS L s = true) : cnt (without L s) P b = if pgS L s / P = b then cnt L P b - 1 else cnt L P b := by
  have h1 := cntS_set h (s, -1) P b
  have h2 : setL L (s, -1) = without L s := if_neg (by show ¬ (0 : Int) ≤ -1; decide)
  rw [h2] at h1
  rw [h1]
  simp only [hs, true_and]
  have : ¬ ((0 : Int) ≤ -1 ∧ (-1 : Int) / P = b) := fun q => absurd q.1 (by decide)
  rw [if_neg this]
  split <;> omega
theorem hasS_wo (L : Ld) (s a : Int) : hasS (without L s) a = (hasS L a && !ieq a s) := by
  rw [Bool.eq_iff_iff, Bool.and_eq_true, hasS_iff, hasS_iff]
  unfold ieq
  constructor
  · rintro ⟨y, hy, rfl⟩
    obtain ⟨h1, h2⟩ := mem_without.1 hy
    exact ⟨⟨y, h1, rfl⟩, by simpa using h2⟩
  · rintro ⟨⟨y, hy, rfl⟩, h2⟩
    exact ⟨y, mem_without.2 ⟨hy, by simpa using h2⟩, rfl⟩
theorem pgS_wo {S T : Int} {L : Ld} (h : MInv S T L) (s a : Int) (ha : hasS (without L s) a = true) : pgS (without L s) a = pgS L a := by
  obtain ⟨y, hy, rfl⟩ := hasS_iff.1 ha
  rw [(h.without s).pg hy, h.pg (mem_without.1 hy).1]
theorem hasP_wo {S T : Int} {L : Ld} (h : MInv S T L) {s : Int} (hs : hasS L s = true) (p : Int) : hasP (without L s) p = (hasP L p && !ieq p (pgS L s)) := by
  obtain ⟨z, hz, rfl⟩ := hasS_iff.1 hs
  rw [h.pg hz, Bool.eq_iff_iff, Bool.and_eq_true, hasP_iff, hasP_iff]
  unfold ieq
  constructor
  · rintro ⟨y, hy, rfl⟩
    obtain ⟨h1, h2⟩ := mem_without.1 hy
    refine ⟨⟨y, h1, rfl⟩, ?_⟩
    have : y.2 ≠ z.2 := fun e => h2 (by rw [h.up h1 hz e])
    simpa using this
  · rintro ⟨⟨y, hy, rfl⟩, h2⟩
    have h2 : y.2 ≠ z.2 := by simpa using h2
    exact ⟨y, mem_without.2 ⟨hy, fun e => h2 (by rw [h.us hy hz e])⟩, rfl⟩
theorem scP_wo {S T : Int} {L : Ld} (h : MInv S T L) (s p : Int) (hp : hasP (without L s) p = true) : scP (without L s) p = scP L p := by
  obtain ⟨y, hy, rfl⟩ := hasP_iff.1 hp
  rw [(h.without s).sc hy, h.sc (mem_without.1 hy).1]
theorem hasP_wo2 {S T : Int} {L : Ld} (h : MInv S T L) {s : Int} (p : Int) : hasP (without L s) p = (hasP L p && !decide (scP L p = s)) := by
  rw [Bool.eq_iff_iff, Bool.and_eq_true, hasP_iff, hasP_iff]
  constructor
  · rintro ⟨y, hy, rfl⟩
    obtain ⟨h1, h2⟩ := mem_without.1 hy
    exact ⟨⟨y, h1, rfl⟩, by rw [h.sc h1]; simpa using h2⟩
  · rintro ⟨⟨y, hy, rfl⟩, h2⟩
    rw [h.sc hy] at h2
    exact ⟨y, mem_without.2 ⟨hy, by simpa using h2⟩, rfl⟩
theorem cnt_nonneg (L : Ld) (P b : Int) : 0 ≤ cnt L P b := by unfold cnt; omega
theorem cnt_le (L : Ld) (P b : Int) : cnt L P b ≤ L.length := by
  unfold cnt
  have := List.countP_le_length (p := fun x : Int × Int => decide (x.2 / P = b)) (l := L)
  omega
theorem len_le' {S T : Int} {L : Ld} (h : MInv S T L) (hS : 0 ≤ S) : (L.length : Int) ≤ S := by
  have h1 : (L.map fun x => x.1.toNat).Nodup := by
    rw [List.nodup_iff_pairwise_ne, List.pairwise_map]
    refine h.lt.imp_of_mem fun {a b} ha hb hab => ?_
    have := h.rg a ha
    have := h.rg b hb
    omega
  have h2 : (L.map fun x => x.1.toNat).length ≤ (List.range S.toNat).length := List.Nodup.length_le_of_subset h1 fun a ha => by
    obtain ⟨x, hx, rfl⟩ := List.mem_map.1 ha
    have := h.rg x hx
    exact List.mem_range.2 (by omega)
  simp at h2
  omega
theorem pg_block {S Bk P : Int} (hN : okN S Bk P = true) {L : Ld} (hL : MInv S (Bk * P) L) {s : Int} (hs : hasS L s = true) : 0 ≤ pgS L s ∧ 0 ≤ pgS L s / P ∧ pgS L s / P < Bk ∧ pgS L s < Bk * P := by
  have hN' := okN_iff.1 hN
  obtain ⟨z, hz, rfl⟩ := hasS_iff.1 hs
  rw [hL.pg hz]
  have := hL.rg z hz
  exact ⟨this.2.2.1, Int.ediv_nonneg this.2.2.1 (by omega), Int.ediv_lt_of_lt_mul (by omega) this.2.2.2, this.2.2.2⟩
theorem updF_cnt (L : Ld) (P : Int) (e : Nat) (c : Int) (i : Nat) : updF (cntF L P) e 0 (SV.int .i64 c).cells i 0 = if i = e then i64 c else i64 (cnt L P i) := by
  simp [updF, SV.cells, cntF]
set_option maxHeartbeats 4000000 in
theorem set_hc (S Bk P : Int) (hN : okN S Bk P = true) (L : Ld) (hL : MInv S (Bk * P) L) (x : Int × Int) (hf : fits1 S Bk P x = true) (hb : busy L x = false) : HC Try.prog 27 [.ptr 0 0, .agg [i64 x.1, i64 x.2]] (mpH S Bk P L) [] 4 (fun _ : Unit => True) (fun _ => ⟨.tup [], mpH S Bk P (setL L x), 4⟩) := by
  have hN' := okN_iff.1 hN
  have hm1 : 4 ≤ Bk * P := by
    have : 2 * 2 ≤ Bk * P := Int.mul_le_mul (by omega) (by omega) (by omega) (by omega)
    omega
  have hm2 : Bk * P ≤ 4096 * 512 := Int.mul_le_mul (by omega) (by omega) (by omega) (by omega)
  have hlen := len_le' hL (by omega)
  have hir := fits_iff.1 hf
  refine hc_of_run Try.func27 rfl (fun B hB hpin => ?_)
  apply run_share (B := B) (fun N TD => ⟨⟨fid 27, N, [(0, .ptr 0 0), (3, .ptr 4 0), (70, .sb (decide (0 ≤ x.2)))], TD⟩, [], (4, .cells [i64 x.1, i64 x.2] 54) :: mpH S Bk P (without L x.1), 5⟩)
  · intro second
    refine goM hB rfl rfl (by simp [conj, Fits_i64]; omega) ?_
    refine run_condF rfl (by rw [show fitsB S Bk P x.1 x.2 = true from hf]; rfl) ?_
    refine goM hB rfl rfl (by simp [conj]) ?_
    refine run_cond rfl (fun hp => ?_) (fun hp => ?_)
    · have hq : scP L x.2 = x.1 := by
        unfold busy at hb
        rw [show hasP L x.2 = true from hp] at hb
        simpa using hb
      refine goM hB rfl rfl (by simp [conj]) ?_
      refine run_condF rfl (by simp [show hasP L x.2 = true from hp, hq]) ?_
      refine goM hB rfl rfl (by simp [conj]) ?_
      refine run_cond rfl (fun hs => ?_) (fun hs => ?_)
      · refine goM hB rfl rfl (by simp [conj]) ?_
        refine run_mdel rfl rfl (by simp [conj]) rfl rfl rfl ?_
        refine goM hB rfl rfl (by simp [conj]) ?_
        refine run_mdel rfl rfl (by simp [conj]) rfl rfl rfl ?_
        have hs' : hasS L x.1 = true := hs
        obtain ⟨p0, p1, p2, p3⟩ := pg_block hN hL hs'
        have c1 := cnt_nonneg L P (pgS L x.1 / P)
        have c2 := cnt_le L P (pgS L x.1 / P)
        have c3 : max (pgS L x.1 / P) 0 = pgS L x.1 / P := by omega
        refine goM hB rfl rfl ?_ ?_
        · simp [conj, Fits_i64, hs', c3]
          omega
        refine run_to hpin [0, 1, 2, 3, 4] rfl rfl ?_ second
        simp [conj, less_rfl, ren_cntF, hs', hasS_wo, hasP_wo hL hs', c3]
        refine ⟨fun a h1 h2 => pgS_wo hL _ _ (by rw [hasS_wo, h1, h2]; rfl), fun a h1 h2 => scP_wo hL _ _ (by rw [hasP_wo hL hs', h1, h2]; rfl), fun i hi => Less.of ?_⟩
        rw [updF_cnt]
        show i64 (cnt (without L x.1) P i) = _
        rw [cnt_dec hL _ _ _ hs']
        by_cases e : i = (pgS L x.1 / P).toNat
        · rw [if_pos e, if_pos (by omega), show (i : Int) = pgS L x.1 / P by omega]
        · rw [if_neg e, if_neg (by omega)]
      · have hs' : hasS L x.1 = false := by simpa using hs
        have hw := without_self hs'
        rw [hw] at second
        refine goM hB rfl rfl (by simp [conj]) ?_
        refine run_to hpin [0, 1, 2, 3, 4] rfl rfl ?_ second
        simp [conj, less_rfl, ren_cntF]
    · refine goM hB rfl rfl (by simp [conj]) ?_
      refine run_cond rfl (fun hs => ?_) (fun hs => ?_)
      · refine goM hB rfl rfl (by simp [conj]) ?_
        refine run_mdel rfl rfl (by simp [conj]) rfl rfl rfl ?_
        refine goM hB rfl rfl (by simp [conj]) ?_
        refine run_mdel rfl rfl (by simp [conj]) rfl rfl rfl ?_
        have hs' : hasS L x.1 = true := hs
        obtain ⟨p0, p1, p2, p3⟩ := pg_block hN hL hs'
        have c1 := cnt_nonneg L P (pgS L x.1 / P)
        have c2 := cnt_le L P (pgS L x.1 / P)
        have c3 : max (pgS L x.1 / P) 0 = pgS L x.1 / P := by omega
        refine goM hB rfl rfl ?_ ?_
        · simp [conj, Fits_i64, hs', c3]
          omega
        refine run_to hpin [0, 1, 2, 3, 4] rfl rfl ?_ second
        simp [conj, less_rfl, ren_cntF, hs', hasS_wo, hasP_wo hL hs', c3]
        refine ⟨fun a h1 h2 => pgS_wo hL _ _ (by rw [hasS_wo, h1, h2]; rfl), fun a h1 h2 => scP_wo hL _ _ (by rw [hasP_wo hL hs', h1, h2]; rfl), fun i hi => Less.of ?_⟩
        rw [updF_cnt]
        show i64 (cnt (without L x.1) P i) = _
        rw [cnt_dec hL _ _ _ hs']
        by_cases e : i = (pgS L x.1 / P).toNat
        · rw [if_pos e, if_pos (by omega), show (i : Int) = pgS L x.1 / P by omega]
        · rw [if_neg e, if_neg (by omega)]
      · have hs' : hasS L x.1 = false := by simpa using hs
        have hw := without_self hs'
        rw [hw] at second
        refine goM hB rfl rfl (by simp [conj]) ?_
        refine run_to hpin [0, 1, 2, 3, 4] rfl rfl ?_ second
        simp [conj, less_rfl, ren_cntF]
  · have hW := hL.without x.1
    refine run_cond rfl (fun h0 => ?_) (fun h0 => ?_)
    · have h0' : 0 ≤ x.2 := by simpa using h0
      refine goM hB rfl rfl (by simp [conj]) ?_
      refine run_mlay 1 rfl (fun es1 c1 w1 hh1 hv1 => ⟨_, rfl, ?_⟩)
      refine run_mlay 2 rfl (fun es2 c2 w2 hh2 hv2 => ⟨_, rfl, ?_⟩)
      obtain ⟨a1, a2, a3⟩ := put_spec2 w1 x.1 x.2
      obtain ⟨b1, b2, b3⟩ := put_spec2 w2 x.2 x.1
      refine run_draw0 mixed (fun t => ?_)
      refine run_drawQ (M := modeM) 22 named hB s2_ok rfl rfl rfl rfl rfl rfl (by simp [conj, a1, b1]) (fun t => ?_)
      refine run_drawE rfl ?_
      have k1 : 0 ≤ x.2 / P := Int.ediv_nonneg h0' (by omega)
      have k2 : x.2 / P < Bk := Int.ediv_lt_of_lt_mul (by omega) hir.2.2.2
      have k3 : max (x.2 / P) 0 = x.2 / P := by omega
      have d1 := cnt_nonneg (without L x.1) P (x.2 / P)
      have d2 := cnt_le (without L x.1) P (x.2 / P)
      have d3 := len_le' hW (by omega)
      have d4 := hir.2.2.2
      refine goM hB rfl rfl ?_ ?_
      · simp [conj, Fits_i64, k3]
        omega
      refine run_endC hpin () trivial [0, 1, 2, 3] rfl rfl (by simp [conj]) rfl ?_
      have hset : setL L x = ins x (without L x.1) := if_pos h0'
      simp [conj, less_rfl, ren_cntF, a2, a3, b2, b3, k3]
      have hwS : ∀ a, hasE .i64 es1 a = true → a ≠ x.1 := fun a ha => by
        rw [hh1, hasS_wo] at ha
        simp [ieq] at ha; exact ha.2
      refine ⟨fun a => ?_, fun a ha => ?_, fun a => ?_, fun a ha => ?_, fun i hi => Less.of ?_⟩
      · rw [hasS_set, hh1, hasS_wo]
        by_cases e : a = x.1
        · simp [e, h0', ieq]
        · simp [e, ieq]
      · have hS : hasS (setL L x) a = true := by
          rw [hasS_set]
          rcases ha with ha | ha
          · have : a = x.1 := by simpa [ieq] using ha
            simp [this, h0']
          · rw [if_neg (hwS a ha)]
            rw [hh1, hasS_wo] at ha
            simp [ieq] at ha; exact ha.1
        rw [pgS_set hL hir hb a hS]
        by_cases e : a = x.1
        · rw [if_pos e, if_pos e]
        · rw [if_neg e, if_neg e]
          rcases ha with ha | ha
          · exact absurd (by simpa [ieq] using ha) e
          · rw [hh1] at ha
            rw [hv1 a ha, pgS_wo hL _ _ ha]
      · rw [hasP_set hL, hh2, hasP_wo2 hL]
        congr 1
        simp [ieq, h0']
      · have hS : hasP (setL L x) a = true := by
          rw [hasP_set hL]
          rcases ha with ha | ha
          · have : a = x.2 := by simpa [ieq] using ha
            simp [this, h0']
          · rw [hh2, hasP_wo2 hL] at ha
            rw [ha]; simp
        rw [scP_set hL hir hb a hS]
        by_cases e : a = x.2
        · rw [if_pos e, if_pos ⟨h0', e⟩]
        · rw [if_neg e, if_neg (fun q => e q.2)]
          rcases ha with ha | ha
          · exact absurd (by simpa [ieq] using ha) e
          · rw [hh2] at ha
            rw [hv2 a ha, scP_wo hL _ _ ha]
      · rw [updF_cnt]
        show i64 (cnt (setL L x) P i) = _
        have hc : cnt (setL L x) P i = cnt (without L x.1) P i + if x.2 / P = i then 1 else 0 := by
          rw [hset]
          unfold cnt
          rw [countP_ins]
          by_cases e : x.2 / P = i
          · rw [if_pos (by simpa using e), if_pos e]; omega
          · rw [if_neg (by simpa using e), if_neg e]; omega
        rw [hc]
        by_cases e : i = (x.2 / P).toNat
        · rw [if_pos e, if_pos (by omega), show x.2 / P = i by omega]
        · rw [if_neg e, if_neg (by omega), Int.add_zero]
    · have h0' : ¬ 0 ≤ x.2 := by simpa using h0
      have hset : setL L x = without L x.1 := if_neg h0'
      refine goM hB rfl rfl (by simp [conj]) ?_
      refine run_endC hpin () trivial [0, 1, 2, 3] rfl rfl (by simp [conj]) rfl ?_
      rw [hset]
      simp [conj, less_rfl, ren_cntF]
end Sx
