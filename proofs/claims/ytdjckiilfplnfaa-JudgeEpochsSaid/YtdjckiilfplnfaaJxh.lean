/- Chapter 47's reference: Valid, its arms over the operations. Conditions: as each theorem says. -/
import Derived.Test.YtdjckiilfplnfaaJw
import Derived.Test.YtdjckiilfplnfaaEngX5
set_option linter.unusedSimpArgs false
set_option linter.unusedVariables false
namespace Sx
open Go Go.Proofs
set_option maxRecDepth 100000
set_option pp.deepTerms true
set_option pp.maxSteps 10000000
def rcER (H : Hi) (vo vc : Value) (t : Int) : RC := ⟨20, [hA H vo vc, i64 t], [], [], 0, i64 (ep H t), [], 0, []⟩
theorem run_shareG {P : Program} {ro : Hp} {B : Base} {f : FuncId} {R : Ending → World → Prop} {N : Nat} {TD : List SI} (G : Prop) (c1 : Nat → List SI → Cfg) {Q : Prop} (main : (G → Run P ro B f R (c1 N TD)) → Q) (proof : G → Run P ro B f R (c1 N TD)) : Q := main proof
set_option maxHeartbeats 8000000 in
theorem validR_ops {K : Kn} {H : Hi} {vo vc : Value} {V : Nat → Value} (h : HOK K H vo vc V) (hh : VHead H) (hcut : ∀ i, i < H.nc → VCut H i) (hf : ∀ i, i < H.m → Fits .i64 (H.op i).f) (b : Bool) (hb : b = true ↔ VHi H) :
    HCK Try.prog K 14 [hA H vo vc] [] [] 0 (fun _ : Unit => True) (fun _ => ⟨.sb b, [], 0⟩) := by
  obtain ⟨b1, b2, b3, b4, b5⟩ := hh
  have hnc := h.nc
  have hm := h.m
  have nob : ¬ VHi H → b = false := fun q => by
    cases e : b with
    | false => rfl
    | true => exact absurd (hb.1 e) q
  have hs : SortC H := fun j hj => by have := (hcut (j + 1) hj).2 (by omega); rw [Nat.add_sub_cancel] at this; exact this
  refine hck_of_run Try.func14 rfl (fun B hB hK hpin => ?_)
  refine goT hB [] 3 rfl (by first | exact conj_nil | simp [conj]) ?_
  refine run_openBN hK 0 3 h.c (by decide) rfl rfl (fun _ => rfl) (fun _ => rfl) hpin (Nat.zero_le _) (fun o1 B1 hM1 hD1 hpin1 hkn1 => ?_)
  have hB1 : B1.ok := by intro x o hx; rw [hM1.w]; rw [hD1] at hx; exact hB x o hx
  refine goT hB1 [(14, 10)] 400 rfl (by first | exact conj_nil | simp [conj]) ?_
  refine run_ff (by simp; omega) ?_
  refine goT hB1 [(14, 14)] 400 rfl (by first | exact conj_nil | simp [conj]) ?_
  refine run_ff (by simp; omega) ?_
  refine goT hB1 [(14, 19)] 400 rfl (by first | exact conj_nil | simp [conj]) ?_
  refine run_ff (by simp; omega) ?_
  refine goT hB1 [(14, 24)] 400 rfl (by first | exact conj_nil | simp [conj]) ?_
  refine run_ff (by simp; omega) ?_
  refine goT hB1 [(14, 32)] 400 rfl (by simp [conj, Fits_i64]; omega) ?_
  refine run_ff (by simp [b5]) ?_
  refine goT hB1 [] 400 rfl (by first | exact conj_nil | simp [conj]) ?_
  refine run_loop ?_
  refine run_inv (ι := Nat) hpin1 (fun i => i ≤ H.nc) (fun i => H.nc - i)
    (fun i => [(3, i64 i), (1, .ptr 0 0)]) (fun _ => []) (fun _ => [(0, .cells [i64 H.unit, i64 H.blocks, .val vo, .sq 1 o1 0 1 H.nc .no] 25)]) 2 0 (Nat.zero_le _) [0, 1] rfl rfl (by simp [conj, less_rfl, ren_urow, renR_urow]) ?_
  rintro i hi ih
  refine goT hB1 [(14, 38)] 400 rfl (by clear ih; first | exact conj_nil | simp [conj]) ?_
  by_cases hin : i < H.nc
  · have e0 : 0 + ((i : Nat) : Int).toNat = i := by omega
    refine run_tt (by simpa using hin) ?_
    refine goT hB1 [(14, 64)] 400 rfl (by clear ih; simp [conj, hin, Fits_i64] <;> omega) ?_
    rw [e0, show 0 + ((i : Int) - 1).toNat = i - 1 by omega]
    obtain ⟨c1, c2⟩ := hcut i hin
    have ih := ih (i + 1) (by omega) (by omega)
    refine run_ff (by
      clear ih
      simp only [Bool.or_eq_false_iff, Bool.and_eq_false_iff, decide_eq_false_iff_not]
      refine ⟨by omega, ?_⟩
      by_cases q : 0 < i
      · have := c2 q; exact .inr (by omega)
      · exact .inl (by omega)) ?_
    refine goT hB1 [] 400 rfl (by clear ih; simp [conj, Fits_i64]; omega) ?_
    refine run_back ?_
    refine run_to hpin1 [0, 1] rfl rfl ?_ ih
    clear ih
    simp [conj, less_rfl, ren_urow, renR_urow]
  · clear ih
    have : i = H.nc := by omega
    subst this
    refine run_ff (by simp) ?_
    refine run_shutN (K := K) (r := 1) (off := o1) (sz := 1) (m := H.nc) (ap := .no) (g := urow H.c) hkn1 0 3 rfl rfl (fun _ => rfl) (fun vc2 hvc2 => ?_)
    refine run_close (.inl rfl) ?_
    refine run_unpin hM1 ?_
    clear hin hi hpin1 hkn1
    have h2 : HOK K H vo vc2 V := ⟨h.o, hvc2, h.v, h.m, h.nc, h.n⟩
    refine goT hB [] 400 rfl (by first | exact conj_nil | simp [conj]) ?_
    refine run_loop ?_
    refine run_inv (ι := Nat) hpin (fun i => i ≤ H.m ∧ ∀ j, j < i → VOp H (H.op j)) (fun i => H.m - i)
      (fun i => [(4, i64 i), (1, .ptr 0 0)]) (fun _ => []) (fun _ => [(0, hC H vo vc2)]) 1 0 ⟨Nat.zero_le _, fun j hj => absurd hj (Nat.not_lt_zero _)⟩ [0] rfl rfl (by simp [conj, less_rfl]) ?_
    rintro i ⟨hi, hall⟩ ih
    refine goT hB [] 400 rfl (by clear ih; first | exact conj_nil | simp [conj]) ?_
    refine run_open hK 67 h.o (by decide) rfl (fun o2 => ?_)
    refine goT hB [(14, 69)] 400 rfl (by clear ih; first | exact conj_nil | simp [conj]) ?_
    refine run_close (.inl rfl) ?_
    by_cases hin : i < H.m
    · have e0 : 0 + ((i : Nat) : Int).toNat = i := by omega
      have ih := fun (hv : VOp H (H.op i)) => ih (i + 1) ⟨by omega, fun j hj => by
        rcases Nat.eq_or_lt_of_le (Nat.le_of_lt_succ hj) with q | q
        · rw [q]; exact hv
        · exact hall j q⟩ (by omega)
      have hni := h.n i
      have hfi := hf i hin
      rw [Fits_i64] at hfi
      refine run_tt (by simpa using hin) ?_
      refine goT hB [] 400 rfl (by clear ih; first | exact conj_nil | simp [conj]) ?_
      refine run_open hK 73 h.o (by decide) rfl (fun o3 => ?_)
      refine goT hB [(14, 80)] 400 rfl (by clear ih; simp [conj, hin]) ?_
      rw [e0]
      refine run_close (.inl rfl) ?_
      by_cases q1 : (H.op i).k < 0
      · refine run_tt (by simpa using q1) ?_
        clear ih
        have hbf : b = false := nob (fun g => by have g := g.ops i hin; have := g.1; omega)
        rw [hbf]
        refine goT hB [] 400 rfl (by first | exact conj_nil | simp [conj]) ?_
        refine run_retC hpin () trivial [] rfl rfl (by first | exact conj_nil | simp [conj]) rfl ?_
        simp [conj, less_rfl]
      refine run_ff (by simpa using q1) ?_
      refine goT hB [(14, 83)] 400 rfl (by clear ih; first | exact conj_nil | simp [conj]) ?_
      by_cases q2 : 2 < (H.op i).k
      · refine run_tt (by simpa using q2) ?_
        clear ih
        have hbf : b = false := nob (fun g => by have g := g.ops i hin; have := g.1; omega)
        rw [hbf]
        refine goT hB [] 400 rfl (by first | exact conj_nil | simp [conj]) ?_
        refine run_retC hpin () trivial [] rfl rfl (by first | exact conj_nil | simp [conj]) rfl ?_
        simp [conj, less_rfl]
      refine run_ff (by simpa using q2) ?_
      refine goT hB [(14, 88)] 400 rfl (by clear ih; first | exact conj_nil | simp [conj]) ?_
      by_cases q3 : (H.op i).b < 0
      · refine run_tt (by simpa using q3) ?_
        clear ih
        have hbf : b = false := nob (fun g => by have g := g.ops i hin; have := g.1; omega)
        rw [hbf]
        refine goT hB [] 400 rfl (by first | exact conj_nil | simp [conj]) ?_
        refine run_retC hpin () trivial [] rfl rfl (by first | exact conj_nil | simp [conj]) rfl ?_
        simp [conj, less_rfl]
      refine run_ff (by simpa using q3) ?_
      refine goT hB [(14, 93)] 400 rfl (by clear ih; first | exact conj_nil | simp [conj]) ?_
      by_cases q4 : (H.op i).e < -1
      · refine run_tt (by simpa using q4) ?_
        clear ih
        have hbf : b = false := nob (fun g => by have g := g.ops i hin; have := g.1; omega)
        rw [hbf]
        refine goT hB [] 400 rfl (by first | exact conj_nil | simp [conj]) ?_
        refine run_retC hpin () trivial [] rfl rfl (by first | exact conj_nil | simp [conj]) rfl ?_
        simp [conj, less_rfl]
      refine run_ff (by simpa using q4) ?_
      refine goT hB [(14, 98)] 400 rfl (by clear ih; first | exact conj_nil | simp [conj]) ?_
      have hb1 := epochR_hck h2 (H.op i).b
      have hb2 := epochR_hck h2 (H.op i).e
      apply run_shareG (G := ¬ ((H.op i).e = -1 ∧ (H.op i).k = 0) ∧ ¬ (0 ≤ (H.op i).e ∧ (H.op i).e < (H.op i).b) ∧ True ∧ ¬ ((H.op i).fo = true ∧ (H.op i).k ≠ 1) ∧ (0 ≤ (H.op i).e → ep H (H.op i).b = ep H (H.op i).e)) (N := 179) (P := Try.prog) (f := 14) (ro := []) (B := B) (fun N TD => ⟨⟨fid 14, N, [(142, .sb (decide ((H.op i).k = 2))), (141, i64 (H.op i).k), (7, i64 (H.op i).n), (6, i64 (H.op i).k), (5, .ptr 1 0), (4, i64 i), (1, .ptr 0 0)], TD⟩, [], [(1, .cells [i64 (H.op i).k, i64 (H.op i).f, .und, .und, .und, .und] 39), (0, hC H vo vc2)], 2⟩)
      · intro next
        by_cases q5 : (H.op i).e = -1
        · refine run_tt (by simpa using q5) ?_
          refine goT hB [(14, 101)] 400 rfl (by clear ih next; first | exact conj_nil | simp [conj]) ?_
          by_cases q6 : (H.op i).k = 0
          · refine run_tt (by simpa using q6) ?_
            clear ih next
            have hbf : b = false := nob (fun g => by have g := g.ops i hin; exact g.2.1 ⟨q5, q6⟩)
            rw [hbf]
            refine goT hB [] 400 rfl (by first | exact conj_nil | simp [conj]) ?_
            refine run_retC hpin () trivial [] rfl rfl (by first | exact conj_nil | simp [conj]) rfl ?_
            simp [conj, less_rfl]
          refine run_ff (by simpa using q6) ?_
          refine goT hB [(14, 107)] 400 rfl (by clear ih next; first | exact conj_nil | simp [conj]) ?_
          refine run_ff (by simp; omega) ?_
          refine goT hB [(14, 118)] 400 rfl (by clear ih next; first | exact conj_nil | simp [conj]) ?_
          cases hfo : (H.op i).fo with
          | true =>
            refine run_tt rfl ?_
            refine goT hB [(14, 121)] 400 rfl (by clear ih next; first | exact conj_nil | simp [conj]) ?_
            by_cases q10 : (H.op i).k = 1
            · refine run_ff (by simp; omega) ?_
              refine goT hB [] 7 rfl (by clear ih next; first | exact conj_nil | simp [conj]) ?_
              refine run_draw0 mixed (fun t => ?_)
              refine run_drawK (M := modeJ) (kn := K) hK 1 4 rfl named hB (sumOk_nil _) [] trivial rfl rfl rfl rfl rfl rfl (by clear ih next; first | exact conj_nil | simp [conj]) (fun t => ?_)
              refine run_ff (by simp; omega) ?_
              refine run_drawK (M := modeJ) (kn := K) hK 1 10 rfl named hB (sumOk_nil _) [] trivial rfl rfl rfl rfl rfl rfl (by clear ih next; first | exact conj_nil | simp [conj]) (fun t => ?_)
              refine run_drawE rfl ?_
              refine goT hB [] 400 rfl (by clear ih next; first | exact conj_nil | simp [conj]) ?_
              refine run_open hK 139 (h.v i hin) (by decide) rfl (fun o4 => ?_)
              refine goT hB [(14, 142)] 400 rfl (by clear ih next; first | exact conj_nil | simp [conj]) ?_
              refine run_close (.inl rfl) ?_
              refine run_to hpin [0, 3] rfl rfl ?_ (next ⟨by omega, by omega, trivial, by simp [hfo, q10], by omega⟩)
              clear ih next
              simp [conj, less_rfl]
            · refine run_tt (by simp; omega) ?_
              clear ih next
              have hbf : b = false := nob (fun g => by have g := g.ops i hin; exact g.2.2.2.1 ⟨hfo, q10⟩)
              rw [hbf]
              refine goT hB [] 400 rfl (by first | exact conj_nil | simp [conj]) ?_
              refine run_retC hpin () trivial [] rfl rfl (by first | exact conj_nil | simp [conj]) rfl ?_
              simp [conj, less_rfl]
          | false =>
            refine run_ff rfl ?_
            refine goT hB [] 10 rfl (by clear ih next; first | exact conj_nil | simp [conj]) ?_
            refine run_draw0 mixed (fun t => ?_)
            refine run_drawK (M := modeJ) (kn := K) hK 1 4 rfl named hB (sumOk_nil _) [] trivial rfl rfl rfl rfl rfl rfl (by clear ih next; first | exact conj_nil | simp [conj]) (fun t => ?_)
            refine run_ff (by simp; omega) ?_
            refine run_drawK (M := modeJ) (kn := K) hK 1 10 rfl named hB (sumOk_nil _) [] trivial rfl rfl rfl rfl rfl rfl (by clear ih next; first | exact conj_nil | simp [conj]) (fun t => ?_)
            refine run_drawE rfl ?_
            refine goT hB [] 400 rfl (by clear ih next; first | exact conj_nil | simp [conj]) ?_
            refine run_open hK 139 (h.v i hin) (by decide) rfl (fun o4 => ?_)
            refine goT hB [(14, 142)] 400 rfl (by clear ih next; first | exact conj_nil | simp [conj]) ?_
            refine run_close (.inl rfl) ?_
            refine run_to hpin [0, 3] rfl rfl ?_ (next ⟨by omega, by omega, trivial, by simp [hfo], by omega⟩)
            clear ih next
            simp [conj, less_rfl]
        · refine run_ff (by simpa using q5) ?_
          refine goT hB [(14, 107)] 400 rfl (by clear ih next; first | exact conj_nil | simp [conj]) ?_
          refine run_tt (by simp; omega) ?_
          refine goT hB [(14, 113)] 400 rfl (by clear ih next; first | exact conj_nil | simp [conj]) ?_
          by_cases q7 : (H.op i).e < (H.op i).b
          · refine run_tt (by simpa using q7) ?_
            clear ih next
            have hbf : b = false := nob (fun g => by have g := g.ops i hin; exact g.2.2.1 ⟨by omega, q7⟩)
            rw [hbf]
            refine goT hB [] 400 rfl (by first | exact conj_nil | simp [conj]) ?_
            refine run_retC hpin () trivial [] rfl rfl (by first | exact conj_nil | simp [conj]) rfl ?_
            simp [conj, less_rfl]
          refine run_ff (by simpa using q7) ?_
          refine goT hB [(14, 118)] 400 rfl (by clear ih next; first | exact conj_nil | simp [conj]) ?_
          cases hfo : (H.op i).fo with
          | true =>
            refine run_tt rfl ?_
            refine goT hB [(14, 121)] 400 rfl (by clear ih next; first | exact conj_nil | simp [conj]) ?_
            by_cases q10 : (H.op i).k = 1
            · refine run_ff (by simp; omega) ?_
              refine goT hB [] 7 rfl (by clear ih next; first | exact conj_nil | simp [conj]) ?_
              refine run_draw0 mixed (fun t => ?_)
              refine run_drawK (M := modeJ) (kn := K) hK 1 4 rfl named hB (sumOk_nil _) [] trivial rfl rfl rfl rfl rfl rfl (by clear ih next; first | exact conj_nil | simp [conj]) (fun t => ?_)
              refine run_tt (by simp; omega) ?_
              refine run_drawK (M := modeJ) (kn := K) hK 1 10 rfl named hB (sumOk_nil _) [(11, rcER H vo vc2 (H.op i).b), (15, rcER H vo vc2 (H.op i).e)] ⟨⟨hb1, rfl, Nat.le_refl _⟩, ⟨hb2, rfl, Nat.le_refl _⟩, trivial⟩ rfl rfl rfl rfl rfl rfl (by clear ih next; simp [conj, less_rfl, SO.Live]) (fun t => ?_)
              refine run_drawE rfl ?_
              by_cases hepq : ep H (H.op i).b = ep H (H.op i).e
              rotate_left
              · refine run_tt (by simp; omega) ?_
                clear ih next
                have hbf : b = false := nob (fun g => by have g := g.ops i hin; have := g.2.2.2.2.1; omega)
                rw [hbf]
                refine goT hB [] 400 rfl (by first | exact conj_nil | simp [conj]) ?_
                refine run_retC hpin () trivial [] rfl rfl (by first | exact conj_nil | simp [conj]) rfl ?_
                simp [conj, less_rfl]
              refine run_ff (by simp; omega) ?_
              refine goT hB [] 400 rfl (by clear ih next; first | exact conj_nil | simp [conj]) ?_
              refine run_open hK 139 (h.v i hin) (by decide) rfl (fun o4 => ?_)
              refine goT hB [(14, 142)] 400 rfl (by clear ih next; first | exact conj_nil | simp [conj]) ?_
              refine run_close (.inl rfl) ?_
              refine run_to hpin [0, 3] rfl rfl ?_ (next ⟨by omega, by omega, trivial, by simp [hfo, q10], fun _ => hepq⟩)
              clear ih next
              simp [conj, less_rfl]
            · refine run_tt (by simp; omega) ?_
              clear ih next
              have hbf : b = false := nob (fun g => by have g := g.ops i hin; exact g.2.2.2.1 ⟨hfo, q10⟩)
              rw [hbf]
              refine goT hB [] 400 rfl (by first | exact conj_nil | simp [conj]) ?_
              refine run_retC hpin () trivial [] rfl rfl (by first | exact conj_nil | simp [conj]) rfl ?_
              simp [conj, less_rfl]
          | false =>
            refine run_ff rfl ?_
            refine goT hB [] 10 rfl (by clear ih next; first | exact conj_nil | simp [conj]) ?_
            refine run_draw0 mixed (fun t => ?_)
            refine run_drawK (M := modeJ) (kn := K) hK 1 4 rfl named hB (sumOk_nil _) [] trivial rfl rfl rfl rfl rfl rfl (by clear ih next; first | exact conj_nil | simp [conj]) (fun t => ?_)
            refine run_tt (by simp; omega) ?_
            refine run_drawK (M := modeJ) (kn := K) hK 1 10 rfl named hB (sumOk_nil _) [(11, rcER H vo vc2 (H.op i).b), (15, rcER H vo vc2 (H.op i).e)] ⟨⟨hb1, rfl, Nat.le_refl _⟩, ⟨hb2, rfl, Nat.le_refl _⟩, trivial⟩ rfl rfl rfl rfl rfl rfl (by clear ih next; simp [conj, less_rfl, SO.Live]) (fun t => ?_)
            refine run_drawE rfl ?_
            by_cases hepq : ep H (H.op i).b = ep H (H.op i).e
            rotate_left
            · refine run_tt (by simp; omega) ?_
              clear ih next
              have hbf : b = false := nob (fun g => by have g := g.ops i hin; have := g.2.2.2.2.1; omega)
              rw [hbf]
              refine goT hB [] 400 rfl (by first | exact conj_nil | simp [conj]) ?_
              refine run_retC hpin () trivial [] rfl rfl (by first | exact conj_nil | simp [conj]) rfl ?_
              simp [conj, less_rfl]
            refine run_ff (by simp; omega) ?_
            refine goT hB [] 400 rfl (by clear ih next; first | exact conj_nil | simp [conj]) ?_
            refine run_open hK 139 (h.v i hin) (by decide) rfl (fun o4 => ?_)
            refine goT hB [(14, 142)] 400 rfl (by clear ih next; first | exact conj_nil | simp [conj]) ?_
            refine run_close (.inl rfl) ?_
            refine run_to hpin [0, 3] rfl rfl ?_ (next ⟨by omega, by omega, trivial, by simp [hfo], fun _ => hepq⟩)
            clear ih next
            simp [conj, less_rfl]
      rintro ⟨g2, g3, _, g4, g5⟩
      by_cases c1 : (H.op i).k = 2
      · refine run_tt (by simpa using c1) ?_
        refine goT hB [(14, 145)] 400 rfl (by clear ih; simp [conj, Fits_i64]; try omega) ?_
        by_cases c2 : 0 < (H.op i).n
        · refine run_tt (by simp; omega) ?_
          clear ih
          have hbf : b = false := nob (fun g => by have g := g.ops i hin; have := (g.2.2.2.2.2.1 c1).2; omega)
          rw [hbf]
          refine goT hB [] 400 rfl (by first | exact conj_nil | simp [conj]) ?_
          refine run_retC hpin () trivial [] rfl rfl (by first | exact conj_nil | simp [conj]) rfl ?_
          simp [conj, less_rfl]
        refine run_ff (by simp; omega) ?_
        refine goT hB [(14, 149)] 400 rfl (by clear ih; simp [conj, Fits_i64]; try omega) ?_
        by_cases c3 : ¬ (H.op i).f = 0
        · refine run_tt (by simp; omega) ?_
          clear ih
          have hbf : b = false := nob (fun g => by have g := g.ops i hin; have := (g.2.2.2.2.2.1 c1).1; omega)
          rw [hbf]
          refine goT hB [] 400 rfl (by first | exact conj_nil | simp [conj]) ?_
          refine run_retC hpin () trivial [] rfl rfl (by first | exact conj_nil | simp [conj]) rfl ?_
          simp [conj, less_rfl]
        refine run_ff (by simp; omega) ?_
        refine goT hB [(14, 154)] 400 rfl (by clear ih; first | exact conj_nil | simp [conj]) ?_
        refine run_ff (by simp; omega) ?_
        have ih := ih ⟨by omega, g2, g3, g4, g5, fun _ => by omega, fun q => absurd c1 q⟩
        refine goT hB [] 400 rfl (by clear ih; simp [conj, Fits_i64]; omega) ?_
        refine run_back ?_
        refine run_to hpin [0] rfl rfl ?_ ih
        clear ih
        simp [conj, less_rfl]
      · refine run_ff (by simpa using c1) ?_
        refine goT hB [(14, 154)] 400 rfl (by clear ih; first | exact conj_nil | simp [conj]) ?_
        refine run_tt (by simp; omega) ?_
        refine goT hB [(14, 157)] 400 rfl (by clear ih; simp [conj, Fits_i64]; try omega) ?_
        by_cases c4 : (H.op i).n < 1
        · refine run_tt (by simp; omega) ?_
          clear ih
          have hbf : b = false := nob (fun g => by have g := g.ops i hin; have := g.2.2.2.2.2.2 c1; omega)
          rw [hbf]
          refine goT hB [] 400 rfl (by first | exact conj_nil | simp [conj]) ?_
          refine run_retC hpin () trivial [] rfl rfl (by first | exact conj_nil | simp [conj]) rfl ?_
          simp [conj, less_rfl]
        refine run_ff (by simp; omega) ?_
        refine goT hB [(14, 161)] 400 rfl (by clear ih; simp [conj, Fits_i64]; try omega) ?_
        by_cases c5 : (H.op i).f < 0
        · refine run_tt (by simp; omega) ?_
          clear ih
          have hbf : b = false := nob (fun g => by have g := g.ops i hin; have := g.2.2.2.2.2.2 c1; omega)
          rw [hbf]
          refine goT hB [] 400 rfl (by first | exact conj_nil | simp [conj]) ?_
          refine run_retC hpin () trivial [] rfl rfl (by first | exact conj_nil | simp [conj]) rfl ?_
          simp [conj, less_rfl]
        refine run_ff (by simp; omega) ?_
        refine goT hB [(14, 166)] 400 rfl (by clear ih; simp [conj, Fits_i64]; try omega) ?_
        by_cases c6 : 4096 < (H.op i).f
        · refine run_tt (by simp; omega) ?_
          clear ih
          have hbf : b = false := nob (fun g => by have g := g.ops i hin; have := g.2.2.2.2.2.2 c1; omega)
          rw [hbf]
          refine goT hB [] 400 rfl (by first | exact conj_nil | simp [conj]) ?_
          refine run_retC hpin () trivial [] rfl rfl (by first | exact conj_nil | simp [conj]) rfl ?_
          simp [conj, less_rfl]
        refine run_ff (by simp; omega) ?_
        refine goT hB [(14, 175)] 400 rfl (by clear ih; simp [conj, Fits_i64]; try omega) ?_
        by_cases c7 : H.blocks < (H.op i).f + (H.op i).n
        · refine run_tt (by simp; omega) ?_
          clear ih
          have hbf : b = false := nob (fun g => by have g := g.ops i hin; have := g.2.2.2.2.2.2 c1; omega)
          rw [hbf]
          refine goT hB [] 400 rfl (by first | exact conj_nil | simp [conj]) ?_
          refine run_retC hpin () trivial [] rfl rfl (by first | exact conj_nil | simp [conj]) rfl ?_
          simp [conj, less_rfl]
        refine run_ff (by simp; omega) ?_
        have ih := ih ⟨by omega, g2, g3, g4, g5, fun q => absurd q c1, fun _ => by omega⟩
        refine goT hB [] 400 rfl (by clear ih; simp [conj, Fits_i64]; omega) ?_
        refine run_back ?_
        refine run_to hpin [0] rfl rfl ?_ ih
        clear ih
        simp [conj, less_rfl]
    · clear ih
      have : i = H.m := by omega
      subst this
      have hbt : b = true := hb.2 ⟨b1, b2, b3, b4, b5, fun j hj => (hcut j hj).1, hs, hall⟩
      refine run_ff (by simp) ?_
      refine goT hB [] 400 rfl (by first | exact conj_nil | simp [conj]) ?_
      rw [hbt]
      refine run_retC hpin () trivial [] rfl rfl (by first | exact conj_nil | simp [conj]) rfl ?_
      simp [conj, less_rfl]
end Sx
