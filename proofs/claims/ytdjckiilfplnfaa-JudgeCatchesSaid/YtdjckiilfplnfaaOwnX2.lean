/- Texts of this law, joined: what the functions do. Conditions: as each theorem says. -/
import Derived.Test.YtdjckiilfplnfaaOwnX1
import Derived.Test.YtdjckiilfplnfaaEngX5
import Derived.Test.YtdjckiilfplnfaaEngX4
set_option linter.unusedSimpArgs false
set_option linter.unusedVariables false
section
/- Package judge: Valid. Conditions: as each theorem says. -/
namespace Sx
open Go Go.Proofs
set_option maxRecDepth 100000
set_option pp.deepTerms true
set_option pp.maxSteps 10000000
/-- A valid history. -/
structure VHi (H : Hi) : Prop where
  u1 : 1 ≤ H.unit
  u8 : H.unit ≤ 8
  b1 : 1 ≤ H.blocks
  b2 : H.blocks ≤ 4096
  mod : H.blocks % H.unit = 0
  c0 : ∀ i, i < H.nc → 0 ≤ H.c i
  cs : SortC H
  ops : ∀ i, i < H.m → VOp H (H.op i)
set_option maxHeartbeats 4000000 in
theorem valid_hck {K : Kn} {H : Hi} {vo vc : Value} {V : Nat → Value} (h : HOK K H vo vc V) (b : Bool) (hb : b = true ↔ VHi H) :
    HCK Try.prog K 18 [hA H vo vc] [] [] 0 (fun _ : Unit => True) (fun _ => ⟨.sb b, [], 0⟩) := by
  have hnc := h.nc
  have no : ¬ VHi H → b = false := fun q => by
    cases e : b with
    | false => rfl
    | true => exact absurd (hb.1 e) q
  refine hck_of_run Try.func18 rfl (fun B hB hK hpin => ?_)
  refine goT hB [(18, 7)] 400 rfl (by first | exact conj_nil | simp [conj]) ?_
  by_cases q0 : H.unit < 1
  · refine run_tt (by simpa using q0) ?_
    have hv : b = false := no fun g => by have := g.u1; omega
    refine goT hB [] 400 rfl (by first | exact conj_nil | simp [conj]) ?_
    refine run_retC hpin () trivial [] rfl rfl (by first | exact conj_nil | simp [conj]) rfl ?_
    simp [conj, less_rfl, hv]
  refine run_ff (by simpa using q0) ?_
  refine goT hB [(18, 11)] 400 rfl (by first | exact conj_nil | simp [conj]) ?_
  by_cases q1 : 8 < H.unit
  · refine run_tt (by simpa using q1) ?_
    have hv : b = false := no fun g => by have := g.u8; omega
    refine goT hB [] 400 rfl (by first | exact conj_nil | simp [conj]) ?_
    refine run_retC hpin () trivial [] rfl rfl (by first | exact conj_nil | simp [conj]) rfl ?_
    simp [conj, less_rfl, hv]
  refine run_ff (by simpa using q1) ?_
  refine goT hB [(18, 16)] 400 rfl (by first | exact conj_nil | simp [conj]) ?_
  by_cases q2 : H.blocks < 1
  · refine run_tt (by simpa using q2) ?_
    have hv : b = false := no fun g => by have := g.b1; omega
    refine goT hB [] 400 rfl (by first | exact conj_nil | simp [conj]) ?_
    refine run_retC hpin () trivial [] rfl rfl (by first | exact conj_nil | simp [conj]) rfl ?_
    simp [conj, less_rfl, hv]
  refine run_ff (by simpa using q2) ?_
  refine goT hB [(18, 21)] 400 rfl (by first | exact conj_nil | simp [conj]) ?_
  by_cases q3 : 4096 < H.blocks
  · refine run_tt (by simpa using q3) ?_
    have hv : b = false := no fun g => by have := g.b2; omega
    refine goT hB [] 400 rfl (by first | exact conj_nil | simp [conj]) ?_
    refine run_retC hpin () trivial [] rfl rfl (by first | exact conj_nil | simp [conj]) rfl ?_
    simp [conj, less_rfl, hv]
  refine run_ff (by simpa using q3) ?_
  refine goT hB [(18, 29)] 400 rfl (by simp [conj]; omega) ?_
  by_cases q4 : H.blocks % H.unit = 0
  rotate_left
  · refine run_tt (by simpa using q4) ?_
    have hv : b = false := no fun g => q4 g.mod
    refine goT hB [] 400 rfl (by first | exact conj_nil | simp [conj]) ?_
    refine run_retC hpin () trivial [] rfl rfl (by first | exact conj_nil | simp [conj]) rfl ?_
    simp [conj, less_rfl, hv]
  refine run_ff (by simpa using q4) ?_
  refine goT hB [] 400 rfl (by first | exact conj_nil | simp [conj]) ?_
  refine run_open hK 32 h.c (by decide) rfl (fun oc => ?_)
  refine goT hB [] 400 rfl (by first | exact conj_nil | simp [conj]) ?_
  refine run_loop ?_
  refine run_inv (ι := Nat) hpin (fun i => i ≤ H.nc ∧ ∀ j, j < i → 0 ≤ H.c j ∧ (0 < j → H.c (j - 1) < H.c j)) (fun i => H.nc - i) (fun i => [(34, i64 i), (33, i64 H.nc), (32, .sq 1 oc 0 1 H.nc .no), (1, .ptr 0 0)]) (fun _ => []) (fun _ => [(0, hC H vo vc)]) 2 0 ⟨Nat.zero_le _, fun j hj => absurd hj (Nat.not_lt_zero _)⟩ [0, 1] rfl rfl (by simp [conj, less_rfl, ren_urow, renR_urow]) ?_
  rintro i ⟨hi, hall⟩ ih
  refine goT hB [(18, 35)] 400 rfl (by clear ih; first | exact conj_nil | simp [conj]) ?_
  by_cases hin : i < H.nc
  · have e0 : 0 + ((i : Nat) : Int).toNat = i := by omega
    refine run_tt (by simpa using hin) ?_
    refine goT hB [(18, 40)] 400 rfl (by clear ih; simp [conj, hin]) ?_
    rw [e0]
    by_cases q5 : H.c i < 0
    · clear ih
      refine run_tt (by simpa using q5) ?_
      have hv : b = false := no fun g => by have := g.c0 i hin; omega
      refine goT hB [] 400 rfl (by first | exact conj_nil | simp [conj]) ?_
      refine run_close (.inl rfl) ?_
      refine run_retC hpin () trivial [] rfl rfl (by first | exact conj_nil | simp [conj]) rfl ?_
      simp [conj, less_rfl, hv]
    refine run_ff (by simpa using q5) ?_
    refine goT hB [(18, 43)] 400 rfl (by clear ih; simp [conj]) ?_
    by_cases q6 : 0 < i
    · refine run_tt (by simpa using q6) ?_
      refine goT hB [] 400 rfl (by clear ih; simp [conj, Fits_i64]; omega) ?_
      refine run_open hK 47 h.c (by decide) rfl (fun oc2 => ?_)
      refine goT hB [(18, 52)] 400 rfl (by clear ih; simp [conj, Fits_i64]; omega) ?_
      have e1 : 0 + ((i : Nat) - 1 : Int).toNat = i - 1 := by omega
      rw [e1]
      by_cases q7 : H.c i ≤ H.c (i - 1)
      · clear ih
        refine run_tt (by simpa using q7) ?_
        have hv : b = false := no fun g => by
          have := g.cs (i - 1) (by omega)
          rw [show i - 1 + 1 = i by omega] at this
          omega
        refine goT hB [] 400 rfl (by first | exact conj_nil | simp [conj]) ?_
        refine run_close (.inl rfl) ?_
        refine run_close (.inl rfl) ?_
        refine run_retC hpin () trivial [] rfl rfl (by first | exact conj_nil | simp [conj]) rfl ?_
        simp [conj, less_rfl, hv]
      refine run_ff (by simpa using q7) ?_
      have ih := ih (i + 1) ⟨by omega, fun j hj => by
        rcases Nat.eq_or_lt_of_le (Nat.le_of_lt_succ hj) with e | e
        · rw [e]; exact ⟨by omega, fun _ => by omega⟩
        · exact hall j e⟩ (by omega)
      refine goT hB [] 400 rfl (by clear ih; simp [conj, Fits_i64]; omega) ?_
      refine run_back ?_
      refine run_close (.inl rfl) ?_
      refine run_to hpin [0, 1] rfl rfl ?_ ih
      clear ih
      simp [conj, less_rfl, ren_urow, renR_urow]
    · refine run_ff (by simpa using q6) ?_
      have ih := ih (i + 1) ⟨by omega, fun j hj => by
        rcases Nat.eq_or_lt_of_le (Nat.le_of_lt_succ hj) with e | e
        · rw [e]; exact ⟨by omega, fun _ => by omega⟩
        · exact hall j e⟩ (by omega)
      refine goT hB [] 400 rfl (by clear ih; simp [conj, Fits_i64]; omega) ?_
      refine run_back ?_
      refine run_to hpin [0, 1] rfl rfl ?_ ih
      clear ih
      simp [conj, less_rfl, ren_urow, renR_urow]
  · clear ih
    have hin : i = H.nc := by omega
    subst hin
    have hs : SortC H := fun j hj => by have := (hall (j + 1) hj).2 (by omega); rw [Nat.add_sub_cancel] at this; exact this
    have hbv : b = true ↔ ∀ i, i < H.m → VOp H (H.op i) := hb.trans ⟨fun g => g.ops, fun g => ⟨by omega, by omega, by omega, by omega, q4, fun j hj => (hall j hj).1, hs, g⟩⟩
    refine run_ff (by simp) ?_
    refine goT hB [] 400 rfl (by first | exact conj_nil | simp [conj]) ?_
    refine run_callCK (someNot_hck h hs ⟨by omega, by omega⟩ b hbv) named hB hK [0] rfl rfl rfl rfl (by first | exact conj_nil | simp [conj]) (by simp [conj, less_rfl]) ?_
    rintro ⟨⟩ _
    refine ⟨show 1 ≤ 1 by omega, _, _, _, rfl, rfl, rfl, ?_⟩
    refine goJ hB rfl rfl (by simp [conj, isBo4]) ?_
    refine run_close (.inl rfl) ?_
    refine run_retC hpin () trivial [] rfl rfl (by first | exact conj_nil | simp [conj]) rfl ?_
    simp [conj, less_rfl]
end Sx
end
section
/- Package judge: Epochs, what it makes. Conditions: as each theorem says. -/
namespace Sx
open Go Go.Proofs
set_option maxRecDepth 100000
set_option pp.deepTerms true
set_option pp.maxSteps 10000000
/-- The operations of an epoch among the first i. -/
def EI (H : Hi) (k i : Nat) : List Nat := (List.range i).filter fun j => ep H (H.op j).b == k
def lrow (l : List Nat) : Nat → Int := fun q => ((l.getD q 0 : Nat) : Int)
theorem EI_yes {H : Hi} {k i : Nat} (h : ep H (H.op i).b = k) : EI H k (i + 1) = EI H k i ++ [i] := by
  unfold EI; rw [List.range_succ, List.filter_append]; simp [h]
theorem EI_no {H : Hi} {k i : Nat} (h : ep H (H.op i).b ≠ k) : EI H k (i + 1) = EI H k i := by
  unfold EI; rw [List.range_succ, List.filter_append]; simp [h]
theorem EI_len (H : Hi) (k i : Nat) : (EI H k i).length ≤ i := by
  have := List.length_filter_le (fun j => ep H (H.op j).b == k) (List.range i)
  rw [List.length_range] at this; exact this
theorem less_nil : Less (SV.val (.slice none 0 0)) .nilsl := fun β v h => ⟨h, rfl⟩
theorem ep_le {H : Hi} (hs : SortC H) (t : Int) : ep H t ≤ H.nc := (ep_spec hs t).1
/-- The inner lists while they are made. -/
structure EpW (K0 K : Kn) (H : Hi) (i : Nat) (W : Nat → Value) (blk : Nat → Nat) : Prop where
  g : ∀ e, e ≤ H.nc → Gro K (W e) (EI H e i).length (urow (lrow (EI H e i))) 3 (blk e)
  inj : ∀ e e', e ≤ H.nc → e' ≤ H.nc → 0 < (EI H e i).length → 0 < (EI H e' i).length → blk e = blk e' → e = e'
  nw : ∀ e, e ≤ H.nc → 0 < (EI H e i).length → K0 (blk e) = none
def vrow (W : Nat → Value) : Nat → Nat → SV := fun e _ => .val (W e)
theorem ren_vrow (nx : Nat) (sg : List Nat) (W : Nat → Value) (i k : Nat) : ren nx sg (vrow W i k) = vrow W i k := by simp only [vrow, ren, renF, id]
theorem renR_vrow (nx : Nat) (sg : List Nat) (W : Nat → Value) : renR nx sg (vrow W) = vrow W := by funext i k; exact ren_vrow nx sg W i k
theorem nil_less {W : Nat → Value} {k : Nat} (h : W k = .slice none 0 0) (nx : Nat) (sg : List Nat) (e : Nat) : Less (ren nx sg (bif Nat.beq e k then .nilsl else .val (W e))) (vrow W e 0) := by
  cases q : Nat.beq e k with
  | true =>
    have := Nat.eq_of_beq_eq_true q
    subst this
    exact fun β x hx => hx.1.trans h
  | false => exact Less.rfl
theorem bif_at0 {α : Type} (i e k : Nat) (a b : α) : (bif Nat.beq e i && Nat.beq k 0 then a else b) = if e = i ∧ k = 0 then a else b := by
  by_cases h1 : e = i
  · by_cases h2 : k = 0
    · subst h1 h2; simp
    · have e1 : Nat.beq k 0 = false := by
        cases h : Nat.beq k 0 with
        | false => rfl
        | true => exact absurd (beq_nat h) h2
      rw [e1]; simp [h2]
  · have e1 : Nat.beq e i = false := by
      cases h : Nat.beq e i with
      | false => rfl
      | true => exact absurd (beq_nat h) h1
    rw [e1]; simp [h1]
theorem app1 (u : Nat → Nat → SV) (n : Nat) (g : Nat → Nat → SV) (x : SV) (hg : g 0 0 = x) (q : Nat) (hq : q < n + 1) : appF u n g q 0 = if q < n then u q 0 else x := by
  unfold appF
  by_cases h : q < n
  · rw [if_pos h]
    have : Nat.blt q n = true := by simpa [Nat.blt_eq] using h
    rw [this]; rfl
  · rw [if_neg h]
    have : Nat.blt q n = false := by
      cases e : Nat.blt q n with
      | false => rfl
      | true => exact absurd (by simpa [Nat.blt_eq] using e) h
    rw [this, show q - n = 0 by omega]
    exact hg
theorem give_eq {W : Nat → Value} {k k2 : Nat} (hk2 : k2 = k) (v : Value) (s : SV) (cs : List SV) (hcs : cs.length = 1) (e : Nat) : vrow (fun e => if e = k then v else W e) e 0 = if e = k2 then SV.val v else updF (fun e c => bif Nat.beq e k && Nat.beq c 0 then s else .val (W e)) k 0 cs e 0 := by
  subst hk2
  show SV.val (if e = k2 then v else W e) = _
  by_cases q : e = k2
  · rw [if_pos q, if_pos q]
  · rw [if_neg q, if_neg q]
    have hb : Nat.beq e k2 = false := by
      cases hb : Nat.beq e k2 with
      | false => rfl
      | true => exact absurd (Nat.eq_of_beq_eq_true hb) q
    unfold updF
    simp [hb]
    exact fun q' => absurd q' q
theorem app_lrow (l : List Nat) (i q : Nat) (hq : q < l.length + 1) : urow (lrow (l ++ [i])) q 0 = if q < l.length then urow (lrow l) q 0 else i64 i := by
  unfold urow lrow
  by_cases h : q < l.length
  · rw [if_pos h, List.getD_eq_getElem?_getD, List.getElem?_append_left h, ← List.getD_eq_getElem?_getD]
  · have hq : q = l.length := by omega
    subst hq
    rw [if_neg h, List.getD_eq_getElem?_getD, List.getElem?_append_right (Nat.le_refl _), Nat.sub_self]
    rfl
set_option maxHeartbeats 8000000 in
theorem epochs_ok {K : Kn} {H : Hi} {vo vc : Value} {V : Nat → Value} (h : HOK K H vo vc V) (hv : VHi H) (h24 : H.nc ≤ 24) :
    HCX Try.prog K M0 19 [hA H vo vc] [] [] 0 (fun (y : Value × (Nat → Value)) K' => Froz K' y.1 (H.nc + 1) 1 (vrow y.2) ∧ ∀ e, e ≤ H.nc → Froz K' (y.2 e) (EI H e H.m).length 1 (urow (lrow (EI H e H.m)))) (fun y => ⟨.clo (.func 37) [] [.ptr 0 0], [(0, .cells [.val y.1] 28)], 1⟩) := by
  have hnc := h.nc
  have hm := h.m
  refine hcx_of_run Try.func19 rfl (fun B hB hK hpin => ?_)
  have hF0 : Fz B K M0 B K := .refl hB hK
  refine goJ hB rfl rfl (by first | exact conj_nil | simp [conj]) ?_
  refine run_open hK 8 h.c (by decide) rfl (fun oc => ?_)
  refine goJ hB rfl rfl (by simp [conj, Fits_i64]; omega) ?_
  refine run_close (.inl rfl) ?_
  refine run_callCK (valid_hck h true (by simp [hv])) named hB hK [] rfl rfl rfl rfl (by first | exact conj_nil | simp [conj]) (by simp [conj, less_rfl]) ?_
  rintro ⟨⟩ _
  refine ⟨show 0 ≤ 0 by omega, _, _, _, rfl, rfl, rfl, ?_⟩
  refine goT hB [(19, 14)] 400 rfl (by simp [conj, isBo4]) ?_
  refine run_ff (by simp) ?_
  refine goT hB [] 400 rfl (by first | exact conj_nil | simp [conj]) ?_
  refine run_open hK 16 h.o (by decide) rfl (fun oo => ?_)
  refine goT hB [] 400 rfl (by first | exact conj_nil | simp [conj]) ?_
  refine run_loop ?_
  have e1 : ((H.nc : Int) + 1).toNat = H.nc + 1 := by omega
  rw [e1]
  refine run_to hpin [0, 1, 2, 3, 4] (nx' := 5) (rest' := []) (sl' := [(18, i64 ((0 : Nat) : Int)), (17, i64 H.m), (16, .sq 4 oo 0 6 H.m .no), (3, .ptr 3 0), (1, .ptr 0 0)]) (hp' := [(0, hC H vo vc), (2, .row 0 (H.nc + 1) (H.nc + 1) 1 (vrow fun _ => .slice none 0 0) 23), (3, .cells [.sq 2 0 0 1 (H.nc + 1) .own] 28)]) rfl rfl ?_ ?_
  · simp [conj, less_rfl, ren_orow, renR_orow, ren_vrow, renR_vrow]
    exact fun _ _ => less_nil
  refine run_pinR 4 hpin (Nat.zero_le _) (by show 4 < 5; omega) rfl (fun B1 hM1 hD1 hpin1 hlive => ?_)
  have hB1 : B1.ok := by intro x o hx; rw [hM1.w]; rw [hD1] at hx; exact hB x o hx
  have hK1 : ∀ b o, K b = some o → B1.D b = some o := fun b o e => by rw [hD1]; exact hK b o e
  have hF1 : Fz B1 K M0 B1 K := .refl hB1 hK1
  refine run_invX (ι := Nat × (Nat → Value) × (Nat → Nat)) hF1 hpin1 (fun x K' => x.1 ≤ H.m ∧ EpW B.D K' H x.1 x.2.1 x.2.2) (fun x => H.m - x.1) (fun x => [(18, i64 x.1), (17, i64 H.m), (16, .sq 4 oo 0 6 H.m .no), (3, .ptr 3 0), (1, .ptr 0 0)]) (fun _ => [])
    (fun x => [(0, hC H vo vc), (2, .row 0 (H.nc + 1) (H.nc + 1) 1 (vrow x.2.1) 23), (3, .cells [.sq 2 0 0 1 (H.nc + 1) .own] 28)]) (0, (fun _ => .slice none 0 0), fun _ => 0) ⟨Nat.zero_le _, ⟨fun e _ => .inl ⟨rfl, rfl⟩, fun e e' _ _ q => absurd q (Nat.lt_irrefl 0), fun e _ q => absurd q (Nat.lt_irrefl 0)⟩⟩ ?_
  rintro ⟨i, W, blk⟩ B3 K3 hF3 hpin3 ⟨hi, hW⟩ ih
  have hB3 := hF3.ok
  have hK3 := hF3.le
  have hKK : ∀ b o, K b = some o → K3 b = some o := fun b o e => hF3.old b o e (fun h => h)
  dsimp only at hi hW ih ⊢
  refine goT hB3 [(19, 19)] 400 rfl (by clear ih; first | exact conj_nil | simp [conj]) ?_
  by_cases hin : i < H.m
  · have e0 : 0 + ((i : Nat) : Int).toNat = i := by omega
    refine run_tt (by simpa using hin) ?_
    refine goT hB3 [] 400 rfl (by clear ih; simp [conj, hin, isSl28]) ?_
    rw [e0]
    refine run_callCK (epoch_hck h (H.op i).b _ (ep_spec hv.cs _)) named hB3 (fun b o e => hK3 b o (hKK b o e)) [] rfl rfl rfl rfl (by first | exact conj_nil | simp [conj]) (by clear ih; simp [conj, less_rfl, orow]) ?_
    rintro ⟨⟩ _
    refine ⟨show 0 ≤ 0 by omega, _, _, _, rfl, rfl, rfl, ?_⟩
    refine goT hB3 [] 400 rfl (by clear ih; first | exact conj_nil | simp [conj]) ?_
    have hke : ep H (H.op i).b ≤ H.nc := ep_le hv.cs _
    obtain ⟨k, hk⟩ : ∃ k, k = ep H (H.op i).b := ⟨_, rfl⟩
    rw [← hk] at hke ⊢
    refine run_to hpin3 [0, 1, 2, 3, 4] (nx' := 5) (rest' := []) (sl' := [(6, i64 (k : Int)), (4, i64 i), (18, i64 i), (17, i64 H.m), (16, .sq 4 oo 0 6 H.m .no), (3, .ptr 3 0), (1, .ptr 0 0)]) (hp' := [(0, hC H vo vc), (2, .row 0 (H.nc + 1) (H.nc + 1) 1 (vrow W) 23), (3, .cells [.sq 2 0 0 1 (H.nc + 1) .own] 28)]) rfl rfl ?_ ?_
    · clear ih
      simp [conj, less_rfl, ren_orow, renR_orow, ren_vrow, renR_vrow]
    have hel := EI_len H k i
    have hWk := hW.g k hke
    have hfin : ∀ (N : Nat) (TD : List SI) (v : Value) (b : Nat) (B5 : Base) (K5 : Kn), Fz B1 K M0 B5 K5 → PinTo B5 5 → Gro K5 v ((EI H k i).length + 1) (urow (lrow (EI H k i ++ [i]))) 3 b → B.D b = none → (∀ e, e ≤ H.nc → e ≠ k → 0 < (EI H e i).length → b ≠ blk e ∧ K5 (blk e) = K3 (blk e)) → i + 1 ≤ H.m ∧ EpW B.D K5 H (i + 1) (fun e => if e = k then v else W e) (fun e => if e = k then b else blk e) := by
      intro N TD v b B5 K5 hF5 hpin5 hG hb hoth
      have hlen : ∀ e, e ≠ k → EI H e (i + 1) = EI H e i := fun e he => EI_no (fun q => he (by rw [hk, q]))
      have hlk : EI H k (i + 1) = EI H k i ++ [i] := EI_yes hk.symm
      refine ⟨hin, ⟨fun e he => ?_, fun e e' he he' h1 h2 hbb => ?_, fun e he h1 => ?_⟩⟩
      · by_cases q : e = k
        · subst q
          rw [if_pos rfl, if_pos rfl, hlk, List.length_append]; exact hG
        · rw [if_neg q, if_neg q, hlen e q]
          exact (hW.g e he).keep fun h1 o ho => by rw [(hoth e he q h1).2]; exact ho
      · by_cases q : e = k <;> by_cases q' : e' = k
        · rw [q, q']
        · rw [if_pos q, if_neg q'] at hbb
          rw [hlen e' q'] at h2
          exact absurd hbb (hoth e' he' q' h2).1
        · rw [if_neg q, if_pos q'] at hbb
          rw [hlen e q] at h1
          exact absurd hbb.symm (hoth e he q h1).1
        · rw [if_neg q, if_neg q'] at hbb
          rw [hlen e q] at h1
          rw [hlen e' q'] at h2
          exact hW.inj e e' he he' h1 h2 hbb
      · by_cases q : e = k
        · rw [if_pos q]; exact hb
        · rw [if_neg q]
          rw [hlen e q] at h1
          exact hW.nw e he h1
    obtain ⟨k2, hk2⟩ : ∃ k2, k2 = k := ⟨k, rfl⟩
    rcases hWk with ⟨h0, hnil⟩ | hWk
    · refine run_to hpin3 [0, 1, 2, 3, 4] (nx' := 5) (rest' := []) (sl' := [(6, i64 (k : Int)), (4, i64 i), (18, i64 i), (17, i64 H.m), (16, .sq 4 oo 0 6 H.m .no), (3, .ptr 3 0), (1, .ptr 0 0)]) (hp' := [(0, hC H vo vc), (2, .row 0 (H.nc + 1) (H.nc + 1) 1 (fun e c => bif Nat.beq e k && Nat.beq c 0 then .nilsl else .val (W e)) 23), (3, .cells [.sq 2 0 0 1 (H.nc + 1) .own] 28)]) rfl rfl ?_ ?_
      · clear ih hfin
        simp [conj, less_rfl, ren_orow, renR_orow, ren_vrow, renR_vrow]
        exact fun e _ => nil_less hnil _ _ e
      have hck : k = 0 ∨ k = 1 ∨ k = 2 ∨ k = 3 ∨ k = 4 ∨ k = 5 ∨ k = 6 ∨ k = 7 ∨ k = 8 ∨ k = 9 ∨ k = 10 ∨ k = 11 ∨ k = 12 ∨ k = 13 ∨ k = 14 ∨ k = 15 ∨ k = 16 ∨ k = 17 ∨ k = 18 ∨ k = 19 ∨ k = 20 ∨ k = 21 ∨ k = 22 ∨ k = 23 ∨ k = 24 := by omega
      rcases hck with rfl | rfl | rfl | rfl | rfl | rfl | rfl | rfl | rfl | rfl | rfl | rfl | rfl | rfl | rfl | rfl | rfl | rfl | rfl | rfl | rfl | rfl | rfl | rfl | rfl
      all_goals
        refine goT hB3 [] 400 rfl (by clear ih hfin; simp [conj, Fits_i64]; omega) ?_
        refine run_back ?_
        refine run_giveP hB3 hK3 2 k2 0 (L := 13) (n2 := 0 + 1) (by omega) rfl (by omega) (by decide) (by rw [hk2]; rfl) rfl (Nat.le_refl _) rfl rfl (fun q hq => by obtain rfl : q = 0 := (by omega); rfl) rfl (fun _ => rfl) (fun v b B5 K5 hG hbD hF5 hp5 hK5 => ?_)
        have hB5 := hF5.ok
        have hpin5 := hpin3.fz hF5 hp5
        have hnb : ∀ e, e ≤ H.nc → 0 < (EI H e i).length → b ≠ blk e := fun e he h1 q => by
          have := (hW.g e he).some h1
          cases e2 : K3 (blk e) with
          | none => exact this e2
          | some o => rw [q, hK3 _ _ e2] at hbD; cases hbD
        have hbB : B.D b = none := by
          cases e2 : B.D b with
          | none => rfl
          | some o => rw [hF3.keep b o (by rw [hD1]; exact e2) (fun h => h)] at hbD; cases hbD
        have hE0 := List.length_eq_zero_iff.1 h0
        obtain ⟨q1, q2⟩ := hfin 0 [] v b B5 K5 (hF3.trans0 hF5 hK1 fun _ h => h.elim) hpin5 (by rw [hE0]; exact hG.congr fun q hq => by obtain rfl : q = 0 := (by omega); rfl) hbB (fun e he _ h1 => ⟨hnb e he h1, hK5 _ (fun q => hnb e he h1 q.symm)⟩)
        have ih := ih (i + 1, _, _) B5 K5 (hF3.trans0 hF5 hK1 fun _ h => h.elim) hpin5 ⟨q1, q2⟩ (by show H.m - (i + 1) < H.m - i; omega)
        dsimp only at ih
        refine run_to hpin5 [0, 1, 2, 3, 4] rfl rfl ?_ ih
        clear ih hfin
        simp [conj, less_rfl, ren_orow, renR_orow, ren_vrow, renR_vrow]
        exact fun e _ => Less.of (give_eq hk2 v _ _ rfl e)
    · obtain ⟨h0, hrest⟩ := hWk
      have hWk : Gro K3 (W k) (EI H k i).length (urow (lrow (EI H k i))) 3 (blk k) := .inr ⟨h0, hrest⟩
      obtain ⟨n0, hn0⟩ : ∃ n0, n0 = (EI H k i).length := ⟨_, rfl⟩
      obtain ⟨bk, hbk⟩ : ∃ bk, bk = blk k := ⟨_, rfl⟩
      rw [← hn0] at h0
      rw [← hn0, ← hbk] at hWk
      have hni : n0 ≤ i := by omega
      have hKb : K3 bk ≠ none := hWk.some h0
      have hbn : B1.D bk = none := by rw [hD1, hbk]; exact hW.nw k hke (by omega)
      have hother : ∀ e, e ≤ H.nc → e ≠ k → 0 < (EI H e i).length → blk e ≠ bk := fun e he q h1 e2 => q (hW.inj e k he hke h1 (by omega) (e2.trans hbk))
      refine run_takeO hB3 hK3 2 k 0 hWk h0 (fun j so hj hlv => ?_) rfl rfl (g' := fun e c => bif Nat.beq e k && Nat.beq c 0 then .sq 5 0 0 1 n0 .own else .val (W e)) (fun e c => bif_at0 k e c _ _) rfl (fun hBt hKt => ?_)
      · have hj4 : j = 4 := by
          by_cases q : j = 4
          · exact q
          · exfalso
            simp only [hget] at hj
            cases q2 : Nat.beq j 4 with
            | true => exact q (Nat.eq_of_beq_eq_true q2)
            | false => rw [q2] at hj; cases hj
        subst hj4
        injection hj with hj
        subst hj
        obtain ⟨b', o, g1, g2⟩ := hlive hlv
        refine ⟨b', hF3.pin _ _ g1, fun e => ?_⟩
        rw [← hD1, e, hbn] at g2; cases g2
      have hck : k = 0 ∨ k = 1 ∨ k = 2 ∨ k = 3 ∨ k = 4 ∨ k = 5 ∨ k = 6 ∨ k = 7 ∨ k = 8 ∨ k = 9 ∨ k = 10 ∨ k = 11 ∨ k = 12 ∨ k = 13 ∨ k = 14 ∨ k = 15 ∨ k = 16 ∨ k = 17 ∨ k = 18 ∨ k = 19 ∨ k = 20 ∨ k = 21 ∨ k = 22 ∨ k = 23 ∨ k = 24 := by omega
      rcases hck with rfl | rfl | rfl | rfl | rfl | rfl | rfl | rfl | rfl | rfl | rfl | rfl | rfl | rfl | rfl | rfl | rfl | rfl | rfl | rfl | rfl | rfl | rfl | rfl | rfl
      all_goals
        refine goT hBt [] 400 rfl (by clear ih hfin; simp [conj, Fits_i64]; omega) ?_
        refine run_back ?_
        refine run_giveP hBt hKt 2 k2 0 (L := 14) (n2 := n0 + 1) (by omega) rfl (by omega) (by decide) (by rw [hk2]; rfl) rfl (Nat.le_refl _) rfl rfl (fun q hq => by rw [app1 _ _ _ (i64 i) rfl q hq]; split <;> rfl) rfl (fun _ => rfl) (fun v b B5 K5 hG hbD hF5 hp5 hK5 => ?_)
        have hF5 := hF5.offB hKb
        have hB5 := hF5.ok
        have hpin5 : PinTo B5 5 := hpin3.fz hF5 hp5
        have hbB3 : b = bk ∨ B3.D b = none := by
          have hbD : (if b = bk then none else B3.D b) = none := hbD
          by_cases q : b = bk
          · exact .inl q
          · rw [if_neg q] at hbD; exact .inr hbD
        have hbB : B.D b = none := by
          rcases hbB3 with q | q
          · rw [q, ← hD1]; exact hbn
          · cases e2 : B.D b with
            | none => rfl
            | some o => rw [hF3.keep b o (by rw [hD1]; exact e2) (fun h => h)] at q; cases q
        have hFz : Fz B1 K M0 B5 K5 := hF3.trans hF5 hK1 (fun _ h => h.elim) (fun x hx => .inr (by rw [hx]; exact hbn))
        obtain ⟨q1, q2⟩ := hfin 0 [] v b B5 K5 hFz hpin5 (by rw [← hn0]; exact hG.congr fun q hq => by rw [app1 _ _ _ (i64 i) rfl q hq, app_lrow _ _ _ (by omega), ← hn0]) hbB (fun e he hek h1 => by
          have hne := hother e he hek h1
          have hbe : b ≠ blk e := fun q => by
            rcases hbB3 with q2 | q2
            · exact hne (by rw [← q, q2])
            · have := (hW.g e he).some h1
              cases e2 : K3 (blk e) with
              | none => exact this e2
              | some o => rw [q, hK3 _ _ e2] at q2; cases q2
          refine ⟨hbe, ?_⟩
          rw [hK5 _ (fun q => hbe q.symm)]
          show (if blk e = bk then none else K3 (blk e)) = _
          rw [if_neg hne])
        have ih := ih (i + 1, _, _) B5 K5 hFz hpin5 ⟨q1, q2⟩ (by show H.m - (i + 1) < H.m - i; omega)
        dsimp only at ih
        refine run_to hpin5 [0, 1, 2, 3, 4] rfl rfl ?_ ih
        clear ih hfin
        simp [conj, less_rfl, ren_orow, renR_orow, ren_vrow, renR_vrow]
        exact fun e _ => Less.of (give_eq hk2 v _ _ rfl e)
  · clear ih
    have hin : i = H.m := by omega
    subst hin
    refine run_ff (by simp) ?_
    refine goT hB3 [] 400 rfl (by first | exact conj_nil | simp [conj]) ?_
    refine run_close (.inl rfl) ?_
    refine run_freezeB (L := 2) (off := 0) (sz := 1) (m := H.nc + 1) (ap := .own) hB3 hK3 3 0 rfl rfl rfl rfl (Nat.le_refl _) (fun _ _ _ _ => rfl) rfl (fun _ => rfl) (fun _ => rfl) (fun v B5 K5 hv5 hF5 hp5 => ?_)
    obtain ⟨hFu, hMu⟩ := (hF3.trans0 hF5 hK1 fun _ h => h.elim).unpin hM1
    refine run_unpin hMu ?_
    refine run_retF hFu ⟨hpin.p, hFu.kd.trans hpin.k⟩ (v, W) ⟨hv5, fun e he => ((hW.g e he).froz).fz hF5⟩ [3] rfl rfl (by first | exact conj_nil | simp [conj]) rfl ?_
    simp [conj, less_rfl]
end Sx
end
section
/- slices.Clone of numbers. Conditions: as each theorem says. -/
namespace Sx
open Go Go.Proofs
set_option maxRecDepth 100000
set_option pp.deepTerms true
set_option pp.maxSteps 10000000
theorem isSl23 : IsSl Try.prog 23 := ⟨3, by kernel_rfl⟩
/-- slices.Clone of a row of numbers. -/
theorem cloneV_hcx (K : Kn) (v : Value) (n : Nat) (f : Nat → Int) (hl : n < 1000000) (hF : Froz K v n 1 (urow f)) :
    HCX Try.prog K M0 26 [.val v] [] [] 0 (fun (w : Value) K' => Froz K' w n 1 (urow f)) (fun w => ⟨.val w, [], 0⟩) := by
  refine hcx_of_run Try.func26 rfl (fun B hB hK hpin => ?_)
  have hFz : Fz B K M0 B K := .refl hB hK
  refine goJ hB rfl rfl (by first | exact conj_nil | simp [conj]) ?_
  obtain ⟨base, room, rfl, e2, e3⟩ := id hF
  refine run_vnil isSl23.choose_spec rfl rfl rfl conj_nil (fun hb => ⟨?_, e2 hb⟩) rfl ?_
  · rcases Nat.eq_zero_or_pos n with h | h
    · exact h
    · obtain ⟨_, b, o, _, _, _, h5, _⟩ := e3 h
      rw [hb] at h5; cases h5
  refine goJ hB rfl rfl (by first | exact conj_nil | simp [conj]) ?_
  refine run_cond rfl (fun hb => ?_) (fun hb => ?_)
  · have h0 : n = 0 := by
      rcases Nat.eq_zero_or_pos n with h | h
      · exact h
      · obtain ⟨_, b, o, _, _, _, h5, _⟩ := e3 h
        rw [h5] at hb; cases hb
    subst h0
    refine goJ hB rfl rfl (by first | exact conj_nil | simp [conj]) ?_
    refine run_to hpin [5] (nx' := 1) (rest' := []) (sl' := [(2, .sq 0 0 0 1 0 .own)]) (hp' := [(0, .row 0 0 0 1 (urow f) 3)]) rfl rfl ?_ ?_
    · simp [conj, less_rfl, ren_urow, renR_urow]
    refine run_freeze hB hK 2 rfl rfl (Nat.le_refl _) (fun _ _ _ _ => rfl) rfl (fun w B' K' e1 e7 e8 => ?_)
    refine run_retF e7 (hpin.fz e7 e8) w e1 [] rfl rfl (by first | exact conj_nil | simp [conj]) rfl ?_
    simp [conj, less_rfl]
  · refine goJ hB rfl rfl (by first | exact conj_nil | simp [conj]) ?_
    refine run_open hK 6 hF (by decide) rfl (fun off => ?_)
    refine goJ hB rfl rfl (by simp [conj]; exact ⟨by omega, by omega, fun i _ => rfl⟩) ?_
    refine run_close (.inl rfl) ?_
    refine run_to hpin [2] (nx' := 1) (rest' := []) (sl' := [(2, .sq 0 0 0 1 n .own)]) (hp' := [(0, .row 0 n n 1 (urow f) 3)]) rfl rfl ?_ ?_
    · simp [conj, less_rfl, ren_urow, renR_urow]
      refine fun i hi => Less.of ?_
      simp only [appF, Nat.zero_add]
      rw [show Nat.blt i 0 = false from by cases i <;> rfl]; rfl
    refine run_freeze hB hK 2 rfl rfl (Nat.le_refl _) (fun _ _ _ _ => rfl) rfl (fun w B' K' e1 e7 e8 => ?_)
    refine run_retF e7 (hpin.fz e7 e8) w e1 [] rfl rfl (by first | exact conj_nil | simp [conj]) rfl ?_
    simp [conj, less_rfl]
end Sx
end
section
/- Package judge: is a write durable? Conditions: as each theorem says. -/
namespace Sx
open Go Go.Proofs
set_option maxRecDepth 100000
set_option pp.deepTerms true
set_option pp.maxSteps 10000000
/-- A completed flush that began after a time. -/
def Fl (H : Hi) (e : Int) (k : Nat) : Prop := (H.op k).k = 2 ∧ 0 ≤ (H.op k).e ∧ e < (H.op k).b
instance (H : Hi) (e : Int) (k : Nat) : Decidable (Fl H e k) := by unfold Fl; infer_instance
abbrev xC (e : Int) : SO := .cells [.und, .und, .und, .und, i64 e, .und] 39
theorem fl_hck {K : Kn} {H : Hi} {vo vc : Value} {V : Nat → Value} (h : HOK K H vo vc V) (e : Int) (k : Nat) (hk : k < H.m) :
    HCK Try.prog K 47 [i64 k, .ptr 0 0, .ptr 1 0] [] [(0, hC H vo vc), (1, xC e)] 2 (fun _ : Unit => True) (fun _ => ⟨.sb (decide (Fl H e k)), [], 2⟩) := by
  refine hck_of_run Try.func47 rfl (fun B hB hK hpin => ?_)
  refine goT hB [] 400 rfl (by first | exact conj_nil | simp [conj]) ?_
  refine run_open hK 7 h.o (by decide) rfl (fun oo => ?_)
  refine goT hB [(47, 13)] 400 rfl (by simp [conj, hk]) ?_
  have e0 : 0 + ((k : Nat) : Int).toNat = k := by omega
  rw [e0]
  by_cases q1 : (H.op k).k = 2
  · refine run_tt (by simpa using q1) ?_
    refine goT hB [(47, 17)] 400 rfl (by first | exact conj_nil | simp [conj]) ?_
    by_cases q2 : 0 ≤ (H.op k).e
    · refine run_tt (by simpa using q2) ?_
      refine goT hB [(47, 24)] 400 rfl (by first | exact conj_nil | simp [conj]) ?_
      by_cases q3 : e < (H.op k).b
      · have hv : Fl H e k := ⟨q1, q2, q3⟩
        refine run_tt (by simpa using q3) ?_
        refine goJ hB rfl rfl (by first | exact conj_nil | simp [conj]) ?_
        refine run_close (.inl rfl) ?_
        refine run_retC hpin () trivial [0, 1] rfl rfl (by first | exact conj_nil | simp [conj]) rfl ?_
        simp [conj, less_rfl, hv]
      · have hv : ¬ Fl H e k := fun q => q3 q.2.2
        refine run_ff (by simpa using q3) ?_
        refine goJ hB rfl rfl (by first | exact conj_nil | simp [conj]) ?_
        refine run_close (.inl rfl) ?_
        refine run_retC hpin () trivial [0, 1] rfl rfl (by first | exact conj_nil | simp [conj]) rfl ?_
        simp [conj, less_rfl, hv]
    · have hv : ¬ Fl H e k := fun q => q2 q.2.1
      refine run_ff (by simpa using q2) ?_
      refine goJ hB rfl rfl (by first | exact conj_nil | simp [conj]) ?_
      refine run_close (.inl rfl) ?_
      refine run_retC hpin () trivial [0, 1] rfl rfl (by first | exact conj_nil | simp [conj]) rfl ?_
      simp [conj, less_rfl, hv]
  · have hv : ¬ Fl H e k := fun q => q1 q.1
    refine run_ff (by simpa using q1) ?_
    refine goJ hB rfl rfl (by first | exact conj_nil | simp [conj]) ?_
    refine run_close (.inl rfl) ?_
    refine run_retC hpin () trivial [0, 1] rfl rfl (by first | exact conj_nil | simp [conj]) rfl ?_
    simp [conj, less_rfl, hv]
theorem lrow_at {l : List Nat} {q : Nat} (h : q < l.length) : lrow l q = ((l[q] : Nat) : Int) := by
  unfold lrow; rw [List.getD_eq_getElem?_getD, List.getElem?_eq_getElem h]; rfl
theorem indexFl_hck {K : Kn} {H : Hi} {vo vc : Value} {V : Nat → Value} (h : HOK K H vo vc V) (e : Int) (l : List Nat) (hl : l.length ≤ 100) (hlm : ∀ k ∈ l, k < H.m) (w : Value) (hw : Froz K w l.length 1 (urow (lrow l))) (x : Int) (hx : FstS l.length (fun i => ¬ Fl H e (l.getD i 0)) x) :
    HCK Try.prog K 61 [.val w, .clo (.func 47) [] [.ptr 0 0, .ptr 1 0]] [] [(0, hC H vo vc), (1, xC e)] 2 (fun _ : Unit => True) (fun _ => ⟨i64 x, [], 2⟩) := by
  refine hck_of_run Try.func61 rfl (fun B hB hK hpin => ?_)
  refine run_open hK 0 hw (by decide) rfl (fun oo => ?_)
  refine goJ hB rfl rfl (by first | exact conj_nil | simp [conj]) ?_
  refine run_loop ?_
  refine run_inv (ι := Nat) hpin (fun i => i ≤ l.length ∧ ∀ j, j < i → ¬ Fl H e (l.getD j 0)) (fun i => l.length - i) (fun i => [(8, i64 i), (7, i64 l.length), (1, .clo (.func 47) [] [.ptr 0 0, .ptr 1 0]), (0, .sq 2 oo 0 1 l.length .no)]) (fun _ => []) (fun _ => []) 3 0 ⟨Nat.zero_le _, fun j hj => absurd hj (Nat.not_lt_zero _)⟩ [0, 1, 2] rfl rfl (by simp [conj, less_rfl, ren_urow, renR_urow]) ?_
  rintro i ⟨hi, hall⟩ ih
  refine goT hB [(61, 9)] 400 rfl (by clear ih; first | exact conj_nil | simp [conj]) ?_
  by_cases hin : i < l.length
  · have e0 : 0 + ((i : Nat) : Int).toNat = i := by omega
    refine run_tt (by simpa using hin) ?_
    refine goT hB [] 400 rfl (by clear ih; simp [conj, hin]) ?_
    rw [e0, lrow_at hin]
    have hmem : l[i] < H.m := hlm _ (List.getElem_mem hin)
    have hgd : l.getD i 0 = l[i] := by rw [List.getD_eq_getElem?_getD, List.getElem?_eq_getElem hin]; rfl
    refine run_callCK (fl_hck h e l[i] hmem) named hB hK [0, 1] rfl rfl rfl rfl (by first | exact conj_nil | simp [conj]) (by clear ih; simp [conj, less_rfl]) ?_
    rintro ⟨⟩ _
    refine ⟨show 2 ≤ 2 by omega, _, _, _, rfl, rfl, rfl, ?_⟩
    by_cases hv : Fl H e l[i]
    · clear ih
      have hxi : x = i := by
        rcases hx with ⟨_, q⟩ | ⟨k, q1, q2, q3, q4⟩
        · exact absurd (by rw [hgd]; exact hv) (q i hin)
        · rcases Nat.lt_trichotomy k i with q | q | q
          · exact absurd (hall k q) q3
          · rw [q1, q]
          · exact absurd (by rw [hgd]; exact hv) (q4 i q)
      refine run_tt (by simp [hv]) ?_
      refine goT hB [] 400 rfl (by first | exact conj_nil | simp [conj]) ?_
      refine run_close (.inl rfl) ?_
      refine run_retC hpin () trivial [0, 1] rfl rfl (by first | exact conj_nil | simp [conj]) rfl ?_
      simp [conj, less_rfl, hxi]
    · have ih := ih (i + 1) ⟨by omega, fun j hj => by
        rcases Nat.eq_or_lt_of_le (Nat.le_of_lt_succ hj) with q | q
        · rw [q, hgd]; exact hv
        · exact hall j q⟩ (by omega)
      refine run_ff (by simp [hv]) ?_
      refine goT hB [] 400 rfl (by clear ih; simp [conj, Fits_i64]; omega) ?_
      refine run_back ?_
      refine run_to hpin [0, 1, 2] rfl rfl ?_ ih
      clear ih
      simp [conj, less_rfl, ren_urow, renR_urow]
  · clear ih
    have hxi : x = -1 := by
      rcases hx with ⟨q, _⟩ | ⟨k, q1, q2, q3, q4⟩
      · exact q
      · exact absurd (hall k (by omega)) q3
    refine run_ff (by simpa using hin) ?_
    refine goT hB [] 400 rfl (by first | exact conj_nil | simp [conj]) ?_
    refine run_close (.inl rfl) ?_
    refine run_retC hpin () trivial [0, 1] rfl rfl (by first | exact conj_nil | simp [conj]) rfl ?_
    simp [conj, less_rfl, hxi]
def anyFl (H : Hi) (e : Int) (l : List Nat) : Bool := l.any fun k => decide (Fl H e k)
theorem someFl_hck {K : Kn} {H : Hi} {vo vc : Value} {V : Nat → Value} (h : HOK K H vo vc V) (e : Int) (l : List Nat) (hl : l.length ≤ 100) (hlm : ∀ k ∈ l, k < H.m) (w : Value) (hw : Froz K w l.length 1 (urow (lrow l))) :
    HCK Try.prog K 46 [.val w, .clo (.func 47) [] [.ptr 0 0, .ptr 1 0]] [] [(0, hC H vo vc), (1, xC e)] 2 (fun _ : Unit => True) (fun _ => ⟨.sb (anyFl H e l), [], 2⟩) := by
  obtain ⟨x, hx⟩ := fst_ex l.length (fun i => ¬ Fl H e (l.getD i 0))
  have hbx : anyFl H e l = true ↔ ¬ x < 0 := by
    unfold anyFl
    rw [List.any_eq_true]
    rcases hx with ⟨q, q1⟩ | ⟨k, q1, q2, q3, q4⟩
    · refine ⟨fun ⟨k, hk, hf⟩ => ?_, fun q => by omega⟩
      obtain ⟨i, hi, rfl⟩ := List.getElem_of_mem hk
      have this : ¬ Fl H e (l.getD i 0) := q1 i hi
      rw [List.getD_eq_getElem?_getD, List.getElem?_eq_getElem hi] at this
      exact absurd (by simpa using hf) this
    · have hge : ¬ x < 0 := by omega
      have hm : l.getD k 0 ∈ l := by rw [List.getD_eq_getElem?_getD, List.getElem?_eq_getElem q2]; exact List.getElem_mem q2
      have hd : decide (Fl H e (l.getD k 0)) = true := by rw [decide_eq_true_iff]; exact Decidable.not_not.1 q3
      exact ⟨fun _ => hge, fun _ => ⟨_, hm, hd⟩⟩
  refine hck_of_run Try.func46 rfl (fun B hB hK hpin => ?_)
  refine goJ hB rfl rfl (by first | exact conj_nil | simp [conj]) ?_
  refine run_callCK (indexFl_hck h e l hl hlm w hw x hx) named hB hK [0, 1] rfl rfl rfl rfl (by first | exact conj_nil | simp [conj]) (by simp [conj, less_rfl]) ?_
  rintro ⟨⟩ _
  refine ⟨show 2 ≤ 2 by omega, _, _, _, rfl, rfl, rfl, ?_⟩
  refine goT hB [(46, 8)] 400 rfl (by first | exact conj_nil | simp [conj]) ?_
  cases hb : anyFl H e l with
  | true =>
    have := hbx.1 hb
    refine run_tt (by simp; omega) ?_
    refine goJ hB rfl rfl (by first | exact conj_nil | simp [conj]) ?_
    refine run_retC hpin () trivial [0, 1] rfl rfl (by first | exact conj_nil | simp [conj]) rfl ?_
    simp [conj, less_rfl]
  | false =>
    have : x < 0 := by
      rcases Int.lt_or_le x 0 with q | q
      · exact q
      · have := hbx.2 (by omega); rw [hb] at this; cases this
    refine run_ff (by simp; omega) ?_
    refine goJ hB rfl rfl (by first | exact conj_nil | simp [conj]) ?_
    refine run_retC hpin () trivial [0, 1] rfl rfl (by first | exact conj_nil | simp [conj]) rfl ?_
    simp [conj, less_rfl]
end Sx
end
