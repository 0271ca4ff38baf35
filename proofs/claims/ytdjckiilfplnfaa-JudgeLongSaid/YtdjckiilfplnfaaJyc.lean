/- The law's known. No condition. Printed by gen_jyc.py. -/
import Derived.Test.YtdjckiilfplnfaaJyb
import Derived.Test.YtdjckiilfplnfaaJxf
set_option linter.unusedSimpArgs false
set_option linter.unusedVariables false
namespace Sx
open Go Go.Proofs
set_option maxRecDepth 100000
set_option pp.deepTerms true
set_option pp.maxSteps 10000000
theorem saysOK_hck {K : Kn} {H : Hi} {is : Bool} {Y : List (List Int)} (g : SaysOK H is Y) {vo vc : Value} {V : Nat → Value} (h : HOK K H vo vc V) (want : Value) (WW : Nat → Value) (hw : VLs K 2 (want, Y, WW)) (hYl : Y.length ≤ 1000) :
    HCK Try.prog K 24 [.val vc, .sb is, .val want, .val vo] [] [] 0 (fun (_ : Unit) => True) (fun _ => ⟨.tt, [], 0⟩) := says_hck h g.u g.b g.v g.nc g.long g.vf g.pw is g.ex want Y WW hw g.fin hYl
theorem hck_xs {ι : Type} {P : Program} {K : Kn} {f : FuncId} {xs xs' : List SV} {hp ro : Hp} {nx : Nat} {ψ : ι → Prop} {out : ι → Out} (h : HCK P K f xs hp ro nx ψ out) (hx : ∀ β vs, RelL β xs' vs → RelL β xs vs) : HCK P K f xs' hp ro nx ψ out :=
  fun B β w vs h1 h2 h3 h4 => h B β w vs h1 h2 (hx β vs h3) h4
theorem orow_closed (H : Hi) (V : Nat → Value) (i k : Nat) : (orow H V i k).closed = true := by unfold orow; split <;> rfl
set_option maxHeartbeats 16000000 in
theorem known_hcx {K : Kn} : HCX Try.prog K M0 12 [] [] [] 0 (fun (_ : Unit) _ => True) (fun _ => ⟨.tt, [], 0⟩) := by
  refine hcx_of_run Try.func12 rfl (fun B hB hK hpin => ?_)
  have hF0 : Fz B K M0 B K := .refl hB hK
  -- case 1
  refine goT hB [] 400 rfl (by first | exact conj_nil | simp [conj]) ?_
  refine run_to hpin [0, 1, 2, 4, 6] (nx' := 5) (rest' := []) (sl' := [(7, .sq 4 0 0 6 2 .own), (2, .sq 1 0 0 1 1 .own)]) (hp' := [(4, .cells [i64 1, i64 0, .sq 2 0 0 1 2 .own, i64 0, i64 1, .ff, i64 0, i64 0, .sq 3 0 0 1 2 .own, i64 2, i64 3, .ff] 39), (3, .row 0 2 2 1 (urow fun k => [(1 : Int), 2].getD k 0) 3), (2, .row 0 2 2 1 (urow fun k => [(1 : Int), 2].getD k 0) 3), (1, .cells [.sq 0 0 0 1 2 .own] 23), (0, .row 0 2 2 1 (urow fun k => [(1 : Int), 2].getD k 0) 3)]) rfl rfl (by
    simp [conj, less_rfl, ren_urow, renR_urow]
    (repeat' apply And.intro) <;> first | exact .of rfl | exact ⟨_, rfl, .of rfl⟩ | (refine fun i hi => ?_; rcases i with _ | _ | i <;> first | exact ⟨_, rfl, .of rfl⟩ | omega)) ?_
  refine run_freezeB hB hK 1 0 (L := 0) (off := 0) (sz := 1) (m := 2) (m' := 2) (cap := 2) (ap := .own) rfl rfl rfl rfl (Nat.le_refl _) (fun a c _ hc => rfl) rfl (fun _ => rfl) (fun _ => rfl) (fun w10 B1_1 K1_1 hw10 hF1_1 hp1_1 => ?_)
  have hpin1_1 := hpin.fz hF1_1 hp1_1
  have hFF1_1 := hF0.trans0 hF1_1 hK fun _ h => h.elim
  refine run_freezeB hF1_1.ok hF1_1.le 4 2 (L := 2) (off := 0) (sz := 1) (m := 2) (m' := 2) (cap := 2) (ap := .own) rfl rfl rfl rfl (Nat.le_refl _) (fun a c _ hc => rfl) rfl (fun _ => rfl) (fun _ => rfl) (fun v10 B1_2 K1_2 hv10 hF1_2 hp1_2 => ?_)
  have hpin1_2 := hpin1_1.fz hF1_2 hp1_2
  have hFF1_2 := hFF1_1.trans0 hF1_2 hK fun _ h => h.elim
  refine run_freezeB hF1_2.ok hF1_2.le 4 8 (L := 3) (off := 0) (sz := 1) (m := 2) (m' := 2) (cap := 2) (ap := .own) rfl rfl rfl rfl (Nat.le_refl _) (fun a c _ hc => rfl) rfl (fun _ => rfl) (fun _ => rfl) (fun v11 B1_3 K1_3 hv11 hF1_3 hp1_3 => ?_)
  have hpin1_3 := hpin1_2.fz hF1_3 hp1_3
  have hFF1_3 := hFF1_2.trans0 hF1_3 hK fun _ h => h.elim
  refine run_to hpin1_3 [4, 1] (nx' := 2) (rest' := []) (sl' := [(7, .sq 0 0 0 6 2 .own), (2, .sq 1 0 0 1 1 .own)]) (hp' := [(0, .row 0 2 2 6 (orow h1 (fun i => if i = 0 then v10 else v11)) 39), (1, .row 0 1 1 1 (vrow (fun _ => w10)) 23)]) rfl rfl (by
    simp [conj, less_rfl, ren_vrow, renR_vrow, ren_orow, renR_orow, ren_urow, renR_urow]
    (repeat' apply And.intro) <;> first | exact .of rfl | exact ⟨_, rfl, .of rfl⟩ | (refine fun i k hi hk => ?_; rcases i with _ | _ | i <;> first | omega | (rcases k with _ | _ | _ | _ | _ | _ | k <;> first | exact ⟨_, rfl, .of rfl⟩ | exact ⟨_, rfl, less_nil⟩ | exact ⟨_, rfl, fun _ _ h => h⟩ | omega)) | (refine fun i hi => ?_; rcases i with _ | _ | _ | _ | _ | _ | i <;> first | exact ⟨_, rfl, .of rfl⟩ | exact ⟨_, rfl, fun _ _ h => h⟩ | omega)) ?_
  refine run_freeze hF1_3.ok hF1_3.le 7 rfl rfl (Nat.le_refl _) (fun a c _ _ => orow_closed _ _ a c) rfl (fun vo1 B1_4 K1_4 hvo1 hF1_4 hp1_4 => ?_)
  have hpin1_4 := hpin1_3.fz hF1_4 hp1_4
  have hFF1_4 := hFF1_3.trans0 hF1_4 hK fun _ h => h.elim
  refine run_freeze hF1_4.ok hF1_4.le 2 rfl rfl (Nat.le_refl _) (fun a c _ _ => rfl) rfl (fun wv1 B1_5 K1_5 hwv1 hF1_5 hp1_5 => ?_)
  have hpin1_5 := hpin1_4.fz hF1_5 hp1_5
  have hFF1_5 := hFF1_4.trans0 hF1_5 hK fun _ h => h.elim
  have hok1 : HOK K1_5 h1 vo1 (.slice none 0 0) (fun i => if i = 0 then v10 else v11) := by
    refine ⟨(hvo1).fz hF1_5, Froz.nil _ _ _, fun i hi => ?_, by decide, by decide, ?_⟩
    · have hi : i < 2 := hi
      rcases i with _ | _ | i
      · exact ((((hv10).fz hF1_3).fz hF1_4).fz hF1_5).congr fun a c ha hc => by have ha : a < 2 := ha; rcases a with _ | _ | a <;> first | rfl | omega
      · exact (((hv11).fz hF1_4).fz hF1_5).congr fun a c ha hc => by have ha : a < 2 := ha; rcases a with _ | _ | a <;> first | rfl | omega
      · omega
    · intro i
      rcases i with _ | _ | i
      · exact Nat.le_of_ble_eq_true rfl
      · exact Nat.le_of_ble_eq_true rfl
      · exact Nat.le_of_ble_eq_true rfl
  have hw1 : VLs K1_5 2 (wv1, [vec2 1 2], (fun _ => w10)) := by
    refine ⟨hwv1, fun i hi => ?_⟩
    have hi : i < 1 := hi
    rcases i with _ | i
    · exact (((((hw10).fz hF1_2).fz hF1_3).fz hF1_4).fz hF1_5).congr fun a c ha hc => by rcases a with _ | _ | a <;> first | rfl | omega
    · omega
  refine run_callCK (hck_xs (xs' := [.nilsl, .tt, .val wv1, .val vo1]) (saysOK_hck says1 hok1 wv1 (fun _ => w10) hw1 (by decide)) (fun β vs ⟨v1, _, e1, h1, v2, _, e2, h2, v3, _, e3, h3, h4⟩ => ⟨v1, _, e1, ⟨h1, rfl⟩, v2, _, e2, h2, v3, _, e3, h3, h4⟩)) named hF1_5.ok hF1_5.le [] rfl rfl rfl rfl (by first | exact conj_nil | simp [conj]) (by simp [conj, less_rfl]) ?_
  rintro ⟨⟩ _
  refine ⟨show 0 ≤ 0 by omega, _, _, _, rfl, rfl, rfl, ?_⟩
  -- case 2
  refine goT hF1_5.ok [] 400 rfl (by first | exact conj_nil | simp [conj]) ?_
  refine run_to hpin1_5 [2, 4, 6] (nx' := 3) (rest' := []) (sl' := [(14, .sq 2 0 0 6 2 .own), (9, .tt)]) (hp' := [(2, .cells [i64 1, i64 0, .sq 0 0 0 1 2 .own, i64 0, i64 (-1), .ff, i64 0, i64 0, .sq 1 0 0 1 2 .own, i64 2, i64 3, .ff] 39), (1, .row 0 2 2 1 (urow fun k => [(1 : Int), 0].getD k 0) 3), (0, .row 0 2 2 1 (urow fun k => [(1 : Int), 2].getD k 0) 3)]) rfl rfl (by
    simp [conj, less_rfl, ren_urow, renR_urow]
    (repeat' apply And.intro) <;> first | exact .of rfl | exact ⟨_, rfl, .of rfl⟩ | (refine fun i hi => ?_; rcases i with _ | _ | i <;> first | exact ⟨_, rfl, .of rfl⟩ | omega)) ?_
  refine run_freezeB hF1_5.ok hF1_5.le 2 2 (L := 0) (off := 0) (sz := 1) (m := 2) (m' := 2) (cap := 2) (ap := .own) rfl rfl rfl rfl (Nat.le_refl _) (fun a c _ hc => rfl) rfl (fun _ => rfl) (fun _ => rfl) (fun v20 B2_1 K2_1 hv20 hF2_1 hp2_1 => ?_)
  have hpin2_1 := hpin1_5.fz hF2_1 hp2_1
  have hFF2_1 := hFF1_5.trans0 hF2_1 hK fun _ h => h.elim
  refine run_freezeB hF2_1.ok hF2_1.le 2 8 (L := 1) (off := 0) (sz := 1) (m := 2) (m' := 2) (cap := 2) (ap := .own) rfl rfl rfl rfl (Nat.le_refl _) (fun a c _ hc => rfl) rfl (fun _ => rfl) (fun _ => rfl) (fun v21 B2_2 K2_2 hv21 hF2_2 hp2_2 => ?_)
  have hpin2_2 := hpin2_1.fz hF2_2 hp2_2
  have hFF2_2 := hFF2_1.trans0 hF2_2 hK fun _ h => h.elim
  refine run_to hpin2_2 [2] (nx' := 1) (rest' := []) (sl' := [(14, .sq 0 0 0 6 2 .own), (9, .tt)]) (hp' := [(0, .row 0 2 2 6 (orow h2 (fun i => if i = 0 then v20 else v21)) 39)]) rfl rfl (by
    simp [conj, less_rfl, ren_vrow, renR_vrow, ren_orow, renR_orow, ren_urow, renR_urow]
    (repeat' apply And.intro) <;> first | exact .of rfl | exact ⟨_, rfl, .of rfl⟩ | (refine fun i k hi hk => ?_; rcases i with _ | _ | i <;> first | omega | (rcases k with _ | _ | _ | _ | _ | _ | k <;> first | exact ⟨_, rfl, .of rfl⟩ | exact ⟨_, rfl, less_nil⟩ | exact ⟨_, rfl, fun _ _ h => h⟩ | omega)) | (refine fun i hi => ?_; rcases i with _ | _ | _ | _ | _ | _ | i <;> first | exact ⟨_, rfl, .of rfl⟩ | exact ⟨_, rfl, fun _ _ h => h⟩ | omega)) ?_
  refine run_freeze hF2_2.ok hF2_2.le 14 rfl rfl (Nat.le_refl _) (fun a c _ _ => orow_closed _ _ a c) rfl (fun vo2 B2_3 K2_3 hvo2 hF2_3 hp2_3 => ?_)
  have hpin2_3 := hpin2_2.fz hF2_3 hp2_3
  have hFF2_3 := hFF2_2.trans0 hF2_3 hK fun _ h => h.elim
  have hok2 : HOK K2_3 h2 vo2 (.slice none 0 0) (fun i => if i = 0 then v20 else v21) := by
    refine ⟨hvo2, Froz.nil _ _ _, fun i hi => ?_, by decide, by decide, ?_⟩
    · have hi : i < 2 := hi
      rcases i with _ | _ | i
      · exact (((hv20).fz hF2_2).fz hF2_3).congr fun a c ha hc => by have ha : a < 2 := ha; rcases a with _ | _ | a <;> first | rfl | omega
      · exact ((hv21).fz hF2_3).congr fun a c ha hc => by have ha : a < 2 := ha; rcases a with _ | _ | a <;> first | rfl | omega
      · omega
    · intro i
      rcases i with _ | _ | i
      · exact Nat.le_of_ble_eq_true rfl
      · exact Nat.le_of_ble_eq_true rfl
      · exact Nat.le_of_ble_eq_true rfl
  have hw2 : VLs K2_3 2 ((.slice none 0 0), [], (fun _ => (.slice none 0 0))) := by
    exact ⟨Froz.nil _ _ _, fun i hi => absurd hi (Nat.not_lt_zero _)⟩
  refine run_callCK (hck_xs (xs' := [.nilsl, .ff, .nilsl, .val vo2]) (saysOK_hck says2 hok2 (.slice none 0 0) (fun _ => (.slice none 0 0)) hw2 (by decide)) (fun β vs ⟨v1, _, e1, h1, v2, _, e2, h2, v3, _, e3, h3, h4⟩ => ⟨v1, _, e1, ⟨h1, rfl⟩, v2, _, e2, h2, v3, _, e3, ⟨h3, rfl⟩, h4⟩)) named hF2_3.ok hF2_3.le [] rfl rfl rfl rfl (by first | exact conj_nil | simp [conj]) (by simp [conj, less_rfl]) ?_
  rintro ⟨⟩ _
  refine ⟨show 0 ≤ 0 by omega, _, _, _, rfl, rfl, rfl, ?_⟩
  -- case 3
  refine goT hF2_3.ok [] 400 rfl (by first | exact conj_nil | simp [conj]) ?_
  refine run_to hpin2_3 [1, 2, 3, 4, 5, 7] (nx' := 6) (rest' := []) (sl' := [(24, .sq 5 0 0 6 1 .own), (21, .sq 3 0 0 1 2 .own), (18, .sq 0 0 0 1 1 .own), (17, .tt)]) (hp' := [(5, .cells [i64 1, i64 0, .sq 4 0 0 1 1 .own, i64 0, i64 1, .ff] 39), (4, .row 0 1 1 1 (urow fun k => [(1 : Int)].getD k 0) 3), (3, .cells [.sq 1 0 0 1 2 .own, .sq 2 0 0 1 2 .own] 23), (1, .row 0 2 2 1 (urow fun k => [(0 : Int), 0].getD k 0) 3), (2, .row 0 2 2 1 (urow fun k => [(1 : Int), 0].getD k 0) 3), (0, .row 0 1 1 1 (urow fun k => [(2 : Int)].getD k 0) 3)]) rfl rfl (by
    simp [conj, less_rfl, ren_urow, renR_urow]
    (repeat' apply And.intro) <;> first | exact .of rfl | exact ⟨_, rfl, .of rfl⟩ | (refine fun i hi => ?_; rcases i with _ | _ | i <;> first | exact ⟨_, rfl, .of rfl⟩ | omega)) ?_
  refine run_freezeB hF2_3.ok hF2_3.le 3 0 (L := 1) (off := 0) (sz := 1) (m := 2) (m' := 2) (cap := 2) (ap := .own) rfl rfl rfl rfl (Nat.le_refl _) (fun a c _ hc => rfl) rfl (fun _ => rfl) (fun _ => rfl) (fun w30 B3_1 K3_1 hw30 hF3_1 hp3_1 => ?_)
  have hpin3_1 := hpin2_3.fz hF3_1 hp3_1
  have hFF3_1 := hFF2_3.trans0 hF3_1 hK fun _ h => h.elim
  refine run_freezeB hF3_1.ok hF3_1.le 3 1 (L := 2) (off := 0) (sz := 1) (m := 2) (m' := 2) (cap := 2) (ap := .own) rfl rfl rfl rfl (Nat.le_refl _) (fun a c _ hc => rfl) rfl (fun _ => rfl) (fun _ => rfl) (fun w31 B3_2 K3_2 hw31 hF3_2 hp3_2 => ?_)
  have hpin3_2 := hpin3_1.fz hF3_2 hp3_2
  have hFF3_2 := hFF3_1.trans0 hF3_2 hK fun _ h => h.elim
  refine run_freezeB hF3_2.ok hF3_2.le 5 2 (L := 4) (off := 0) (sz := 1) (m := 1) (m' := 1) (cap := 1) (ap := .own) rfl rfl rfl rfl (Nat.le_refl _) (fun a c _ hc => rfl) rfl (fun _ => rfl) (fun _ => rfl) (fun v30 B3_3 K3_3 hv30 hF3_3 hp3_3 => ?_)
  have hpin3_3 := hpin3_2.fz hF3_3 hp3_3
  have hFF3_3 := hFF3_2.trans0 hF3_3 hK fun _ h => h.elim
  refine run_to hpin3_3 [5, 3, 0] (nx' := 3) (rest' := []) (sl' := [(24, .sq 0 0 0 6 1 .own), (21, .sq 1 0 0 1 2 .own), (18, .sq 2 0 0 1 1 .own), (17, .tt)]) (hp' := [(0, .row 0 1 1 6 (orow h3 (fun _ => v30)) 39), (1, .row 0 2 2 1 (vrow (fun i => if i = 0 then w30 else w31)) 23), (2, .row 0 1 1 1 (urow fun k => [(2 : Int)].getD k 0) 3)]) rfl rfl (by
    simp [conj, less_rfl, ren_vrow, renR_vrow, ren_orow, renR_orow, ren_urow, renR_urow]
    (repeat' apply And.intro) <;> first | exact .of rfl | exact ⟨_, rfl, .of rfl⟩ | (refine fun i k hi hk => ?_; rcases i with _ | _ | i <;> first | omega | (rcases k with _ | _ | _ | _ | _ | _ | k <;> first | exact ⟨_, rfl, .of rfl⟩ | exact ⟨_, rfl, less_nil⟩ | exact ⟨_, rfl, fun _ _ h => h⟩ | omega)) | (refine fun i hi => ?_; rcases i with _ | _ | _ | _ | _ | _ | i <;> first | exact ⟨_, rfl, .of rfl⟩ | exact ⟨_, rfl, fun _ _ h => h⟩ | omega)) ?_
  refine run_freeze hF3_3.ok hF3_3.le 24 rfl rfl (Nat.le_refl _) (fun a c _ _ => orow_closed _ _ a c) rfl (fun vo3 B3_4 K3_4 hvo3 hF3_4 hp3_4 => ?_)
  have hpin3_4 := hpin3_3.fz hF3_4 hp3_4
  have hFF3_4 := hFF3_3.trans0 hF3_4 hK fun _ h => h.elim
  refine run_freeze hF3_4.ok hF3_4.le 21 rfl rfl (Nat.le_refl _) (fun a c _ _ => rfl) rfl (fun wv3 B3_5 K3_5 hwv3 hF3_5 hp3_5 => ?_)
  have hpin3_5 := hpin3_4.fz hF3_5 hp3_5
  have hFF3_5 := hFF3_4.trans0 hF3_5 hK fun _ h => h.elim
  refine run_freeze hF3_5.ok hF3_5.le 18 rfl rfl (Nat.le_refl _) (fun a c _ _ => rfl) rfl (fun cv3 B3_6 K3_6 hcv3 hF3_6 hp3_6 => ?_)
  have hpin3_6 := hpin3_5.fz hF3_6 hp3_6
  have hFF3_6 := hFF3_5.trans0 hF3_6 hK fun _ h => h.elim
  have hok3 : HOK K3_6 h3 vo3 cv3 (fun _ => v30) := by
    refine ⟨((hvo3).fz hF3_5).fz hF3_6, (hcv3).congr fun a c ha hc => by rcases a with _ | a <;> first | rfl | omega, fun i hi => ?_, by decide, by decide, ?_⟩
    · have hi : i < 1 := hi
      rcases i with _ | i
      · exact ((((hv30).fz hF3_4).fz hF3_5).fz hF3_6).congr fun a c ha hc => by have ha : a < 1 := ha; rcases a with _ | _ | a <;> first | rfl | omega
      · omega
    · intro i
      rcases i with _ | i
      · exact Nat.le_of_ble_eq_true rfl
      · exact Nat.le_of_ble_eq_true rfl
  have hw3 : VLs K3_6 2 (wv3, [vec2 0 0, vec2 1 0], (fun i => if i = 0 then w30 else w31)) := by
    refine ⟨(hwv3).fz hF3_6, fun i hi => ?_⟩
    have hi : i < 2 := hi
    rcases i with _ | _ | i
    · exact ((((((hw30).fz hF3_2).fz hF3_3).fz hF3_4).fz hF3_5).fz hF3_6).congr fun a c ha hc => by rcases a with _ | _ | a <;> first | rfl | omega
    · exact (((((hw31).fz hF3_3).fz hF3_4).fz hF3_5).fz hF3_6).congr fun a c ha hc => by rcases a with _ | _ | a <;> first | rfl | omega
    · omega
  refine run_callCK (hck_xs (xs' := [.val cv3, .tt, .val wv3, .val vo3]) (saysOK_hck says3 hok3 wv3 (fun i => if i = 0 then w30 else w31) hw3 (by decide)) (fun β vs ⟨v1, _, e1, h1, v2, _, e2, h2, v3, _, e3, h3, h4⟩ => ⟨v1, _, e1, h1, v2, _, e2, h2, v3, _, e3, h3, h4⟩)) named hF3_6.ok hF3_6.le [] rfl rfl rfl rfl (by first | exact conj_nil | simp [conj]) (by simp [conj, less_rfl]) ?_
  rintro ⟨⟩ _
  refine ⟨show 0 ≤ 0 by omega, _, _, _, rfl, rfl, rfl, ?_⟩
  -- case 4
  refine goT hF3_6.ok [] 400 rfl (by first | exact conj_nil | simp [conj]) ?_
  refine run_to hpin3_6 [3, 4, 5, 6, 9] (nx' := 5) (rest' := []) (sl' := [(34, .sq 4 0 0 6 2 .own), (30, .sq 2 0 0 1 1 .own), (28, .sq 0 0 0 1 1 .own), (27, .tt)]) (hp' := [(4, .cells [i64 1, i64 0, .sq 3 0 0 1 1 .own, i64 0, i64 1, .ff, i64 2, i64 0, .nilsl, i64 2, i64 3, .ff] 39), (3, .row 0 1 1 1 (urow fun k => [(1 : Int)].getD k 0) 3), (2, .cells [.sq 1 0 0 1 2 .own] 23), (1, .row 0 2 2 1 (urow fun k => [(1 : Int), 0].getD k 0) 3), (0, .row 0 1 1 1 (urow fun k => [(4 : Int)].getD k 0) 3)]) rfl rfl (by
    simp [conj, less_rfl, ren_urow, renR_urow]
    (repeat' apply And.intro) <;> first | exact .of rfl | exact ⟨_, rfl, .of rfl⟩ | (refine fun i hi => ?_; rcases i with _ | _ | i <;> first | exact ⟨_, rfl, .of rfl⟩ | omega)) ?_
  refine run_freezeB hF3_6.ok hF3_6.le 2 0 (L := 1) (off := 0) (sz := 1) (m := 2) (m' := 2) (cap := 2) (ap := .own) rfl rfl rfl rfl (Nat.le_refl _) (fun a c _ hc => rfl) rfl (fun _ => rfl) (fun _ => rfl) (fun w40 B4_1 K4_1 hw40 hF4_1 hp4_1 => ?_)
  have hpin4_1 := hpin3_6.fz hF4_1 hp4_1
  have hFF4_1 := hFF3_6.trans0 hF4_1 hK fun _ h => h.elim
  refine run_freezeB hF4_1.ok hF4_1.le 4 2 (L := 3) (off := 0) (sz := 1) (m := 1) (m' := 1) (cap := 1) (ap := .own) rfl rfl rfl rfl (Nat.le_refl _) (fun a c _ hc => rfl) rfl (fun _ => rfl) (fun _ => rfl) (fun v40 B4_2 K4_2 hv40 hF4_2 hp4_2 => ?_)
  have hpin4_2 := hpin4_1.fz hF4_2 hp4_2
  have hFF4_2 := hFF4_1.trans0 hF4_2 hK fun _ h => h.elim
  refine run_to hpin4_2 [4, 2, 0] (nx' := 3) (rest' := []) (sl' := [(34, .sq 0 0 0 6 2 .own), (30, .sq 1 0 0 1 1 .own), (28, .sq 2 0 0 1 1 .own), (27, .tt)]) (hp' := [(0, .row 0 2 2 6 (orow h4 (fun i => if i = 0 then v40 else (.slice none 0 0))) 39), (1, .row 0 1 1 1 (vrow (fun _ => w40)) 23), (2, .row 0 1 1 1 (urow fun k => [(4 : Int)].getD k 0) 3)]) rfl rfl (by
    simp [conj, less_rfl, ren_vrow, renR_vrow, ren_orow, renR_orow, ren_urow, renR_urow]
    (repeat' apply And.intro) <;> first | exact .of rfl | exact ⟨_, rfl, .of rfl⟩ | (refine fun i k hi hk => ?_; rcases i with _ | _ | i <;> first | omega | (rcases k with _ | _ | _ | _ | _ | _ | k <;> first | exact ⟨_, rfl, .of rfl⟩ | exact ⟨_, rfl, less_nil⟩ | exact ⟨_, rfl, fun _ _ h => h⟩ | omega)) | (refine fun i hi => ?_; rcases i with _ | _ | _ | _ | _ | _ | i <;> first | exact ⟨_, rfl, .of rfl⟩ | exact ⟨_, rfl, fun _ _ h => h⟩ | omega)) ?_
  refine run_freeze hF4_2.ok hF4_2.le 34 rfl rfl (Nat.le_refl _) (fun a c _ _ => orow_closed _ _ a c) rfl (fun vo4 B4_3 K4_3 hvo4 hF4_3 hp4_3 => ?_)
  have hpin4_3 := hpin4_2.fz hF4_3 hp4_3
  have hFF4_3 := hFF4_2.trans0 hF4_3 hK fun _ h => h.elim
  refine run_freeze hF4_3.ok hF4_3.le 30 rfl rfl (Nat.le_refl _) (fun a c _ _ => rfl) rfl (fun wv4 B4_4 K4_4 hwv4 hF4_4 hp4_4 => ?_)
  have hpin4_4 := hpin4_3.fz hF4_4 hp4_4
  have hFF4_4 := hFF4_3.trans0 hF4_4 hK fun _ h => h.elim
  refine run_freeze hF4_4.ok hF4_4.le 28 rfl rfl (Nat.le_refl _) (fun a c _ _ => rfl) rfl (fun cv4 B4_5 K4_5 hcv4 hF4_5 hp4_5 => ?_)
  have hpin4_5 := hpin4_4.fz hF4_5 hp4_5
  have hFF4_5 := hFF4_4.trans0 hF4_5 hK fun _ h => h.elim
  have hok4 : HOK K4_5 h4 vo4 cv4 (fun i => if i = 0 then v40 else (.slice none 0 0)) := by
    refine ⟨((hvo4).fz hF4_4).fz hF4_5, (hcv4).congr fun a c ha hc => by rcases a with _ | a <;> first | rfl | omega, fun i hi => ?_, by decide, by decide, ?_⟩
    · have hi : i < 2 := hi
      rcases i with _ | _ | i
      · exact ((((hv40).fz hF4_3).fz hF4_4).fz hF4_5).congr fun a c ha hc => by have ha : a < 1 := ha; rcases a with _ | _ | a <;> first | rfl | omega
      · exact Froz.nil _ _ _
      · omega
    · intro i
      rcases i with _ | _ | i
      · exact Nat.le_of_ble_eq_true rfl
      · exact Nat.le_of_ble_eq_true rfl
      · exact Nat.le_of_ble_eq_true rfl
  have hw4 : VLs K4_5 2 (wv4, [vec2 1 0], (fun _ => w40)) := by
    refine ⟨(hwv4).fz hF4_5, fun i hi => ?_⟩
    have hi : i < 1 := hi
    rcases i with _ | i
    · exact (((((hw40).fz hF4_2).fz hF4_3).fz hF4_4).fz hF4_5).congr fun a c ha hc => by rcases a with _ | _ | a <;> first | rfl | omega
    · omega
  refine run_callCK (hck_xs (xs' := [.val cv4, .tt, .val wv4, .val vo4]) (saysOK_hck says4 hok4 wv4 (fun _ => w40) hw4 (by decide)) (fun β vs ⟨v1, _, e1, h1, v2, _, e2, h2, v3, _, e3, h3, h4⟩ => ⟨v1, _, e1, h1, v2, _, e2, h2, v3, _, e3, h3, h4⟩)) named hF4_5.ok hF4_5.le [] rfl rfl rfl rfl (by first | exact conj_nil | simp [conj]) (by simp [conj, less_rfl]) ?_
  rintro ⟨⟩ _
  refine ⟨show 0 ≤ 0 by omega, _, _, _, rfl, rfl, rfl, ?_⟩
  refine goT hF4_5.ok [] 400 rfl (by first | exact conj_nil | simp [conj]) ?_
  refine run_retF hFF4_5 hpin4_5 () trivial [] rfl rfl (by first | exact conj_nil | simp [conj]) rfl ?_
  simp [conj, less_rfl]
theorem known_hck {K : Kn} : HCK Try.prog K 12 [] [] [] 0 (fun (_ : Unit) => True) (fun _ => ⟨.tt, [], 0⟩) := hck_of_hcx known_hcx
end Sx
