/- Chapter 47's reference: unique. Conditions: as each theorem says. -/
import Derived.Test.YtdjckiilfplnfaaJxd
import Derived.Test.YtdjckiilfplnfaaJu
import Derived.Test.YtdjckiilfplnfaaJsb
set_option linter.unusedSimpArgs false
set_option linter.unusedVariables false
namespace Sx
open Go Go.Proofs
set_option maxRecDepth 100000
set_option pp.deepTerms true
set_option pp.maxSteps 10000000
theorem ltV_trans {N : Nat} {a b c : List Int} (h : ltV N a b) (g : ltV N b c) : ltV N a c := cmpR_trans _ _ _ N N h g
theorem ltV_eq {N : Nat} {a b : List Int} (ha : GV N a) (hb : GV N b) (h : ¬ ltV N a b) (g : ¬ ltV N b a) : a = b := by
  have := cmpR_anti (fun k => a.getD k 0) (fun k => b.getD k 0) N N (by unfold ltV at h; omega) g
  refine ext8 ha.1 hb.1 fun k hk => ?_
  by_cases q : k < N
  · exact this k (by omega) q
  · rw [ha.2 k (by omega), hb.2 k (by omega)]
theorem ltV_irr {N : Nat} {a : List Int} : ¬ ltV N a a := by unfold ltV; rw [cmpR_self]; omega
theorem VL.take {K : Kn} {N : Nat} {X : List (List Int)} {W : Nat → Value} (h : VL K N X W) (k : Nat) : VL K N (X.take k) W := by
  intro i hi
  rw [List.length_take] at hi
  have e : (X.take k).getD i [] = X.getD i [] := by rw [List.getD_eq_getElem?_getD, List.getElem?_take_of_lt (by omega), ← List.getD_eq_getElem?_getD]
  rw [e]; exact h i (by omega)
theorem VL.drop {K : Kn} {N : Nat} {X : List (List Int)} {W : Nat → Value} (h : VL K N X W) (k : Nat) : VL K N (X.drop k) (fun j => W (k + j)) := by
  intro i hi
  rw [List.length_drop] at hi
  have e : (X.drop k).getD i [] = X.getD (k + i) [] := by rw [List.getD_eq_getElem?_getD, List.getElem?_drop, ← List.getD_eq_getElem?_getD]
  rw [e]; exact h _ (by omega)
theorem ins_ok {K : Kn} {N : Nat} {Y Z : List (List Int)} {YW : Nat → Value} {x : List Int} {xv : Value} (hY : VL K N Y YW) (hYs : Y.Pairwise (ltV N)) (hYm : ∀ w, w ∈ Y ↔ w ∈ Z) (hx : GV N x ∧ Froz K xv N 1 (urow fun k => x.getD k 0)) (k : Nat) (hk : k ≤ Y.length)
    (hkl : ∀ j, j < k → ltV N (Y.getD j []) x) (hgt : k < Y.length → ltV N x (Y.getD k [])) :
    VL K N (Y.take k ++ ([x] ++ Y.drop k)) (catW (Y.take k).length YW (catW 1 (fun _ => xv) fun j => YW (k + j))) ∧ (Y.take k ++ ([x] ++ Y.drop k)).Pairwise (ltV N) ∧ ∀ w, w ∈ Y.take k ++ ([x] ++ Y.drop k) ↔ w ∈ Z ++ [x] := by
  have hgetl : ∀ a ∈ Y.take k, ltV N a x := fun a ha => by
    obtain ⟨j, hj, rfl⟩ := List.mem_iff_getElem.1 ha
    rw [List.length_take] at hj
    have := hkl j (by omega)
    rw [List.getD_eq_getElem?_getD, List.getElem?_eq_getElem (by omega)] at this
    rw [List.getElem_take]; exact this
  have hgetr : ∀ b ∈ Y.drop k, ltV N x b := fun b hb => by
    obtain ⟨j, hj, rfl⟩ := List.mem_iff_getElem.1 hb
    rw [List.length_drop] at hj
    have h0 := hgt (by omega)
    rw [List.getD_eq_getElem?_getD, List.getElem?_eq_getElem (by omega)] at h0
    rw [List.getElem_drop]
    cases j with
    | zero => exact h0
    | succ j =>
      have := List.pairwise_iff_getElem.1 hYs k (k + (j + 1)) (by omega) (by omega) (by omega)
      exact ltV_trans h0 this
  refine ⟨(hY.take k).app ((VL.one hx.1 hx.2).app (hY.drop k)), ?_, fun w => ?_⟩
  · rw [List.pairwise_append, List.pairwise_append]
    refine ⟨hYs.sublist (List.take_sublist _ _), ⟨List.pairwise_singleton _ _, hYs.sublist (List.drop_sublist _ _), fun a ha b hb => ?_⟩, fun a ha b hb => ?_⟩
    · rw [List.mem_singleton] at ha; rw [ha]; exact hgetr b hb
    · rw [List.mem_append, List.mem_singleton] at hb
      rcases hb with rfl | hb
      · exact hgetl a ha
      · exact ltV_trans (hgetl a ha) (hgetr b hb)
  · rw [List.mem_append, List.mem_append, List.mem_singleton, List.mem_append, List.mem_singleton, ← hYm w]
    constructor
    · rintro (h | h | h)
      · exact .inl (List.mem_of_mem_take h)
      · exact .inr h
      · exact .inl (List.mem_of_mem_drop h)
    · rintro (h | h)
      · rw [← List.take_append_drop k Y, List.mem_append] at h
        exact h.elim .inl fun h => .inr (.inr h)
      · exact .inr (.inl h)
theorem ins_less (YW : Nat → Value) (v : Value) (k a : Nat) : Less (vrow (catW k YW (catW 1 (fun _ => v) fun j => YW (k + j))) a 0)
    (appF (appF (appF (fun _ _ => SV.und) 0 fun i k => vrow YW i k) k fun i k => [SV.val v][i + k]?.getD SV.und) (k + 1) (fun i j => vrow YW (k + i) j) a 0) := by
  refine Less.of ?_
  have bt : ∀ a b : Nat, a < b → Nat.blt a b = true := fun a b h => by simpa [Nat.blt_eq] using h
  have bf : ∀ a b : Nat, ¬ a < b → Nat.blt a b = false := fun a b h => by
    cases hq : Nat.blt a b with
    | false => rfl
    | true => rw [Nat.blt_eq] at hq; omega
  unfold appF
  by_cases h1 : a < k
  · rw [bt _ _ (show a < k + 1 by omega), cond_true, bt _ _ h1, cond_true, show Nat.blt a 0 = false from rfl, cond_false]
    unfold vrow catW
    rw [if_pos h1]
    rfl
  · by_cases h2 : a = k
    · subst h2
      rw [bt _ _ (Nat.lt_succ_self a), cond_true, bf _ _ h1, cond_false]
      unfold vrow catW
      rw [if_neg h1]
      simp
    · rw [bf _ _ (show ¬ a < k + 1 by omega), cond_false]
      unfold vrow catW
      rw [if_neg h1, if_neg (by omega)]
      show SV.val (YW (k + (a - k - 1))) = SV.val (YW (k + (a - (k + 1))))
      rw [show a - k - 1 = a - (k + 1) by omega]
set_option maxHeartbeats 8000000 in
theorem uniqueR_hcx {K : Kn} (N : Nat) (hN1 : 1 ≤ N) (hN8 : N ≤ 8) (X : List (List Int)) (XW : Nat → Value) (hX : VL K N X XW) (hlim : X.length ≤ 5864062014805) :
    HCX Try.prog K M0 32 [.sq 0 0 0 1 X.length .no] [(0, .row 0 X.length X.length 1 (vrow XW) 23)] [] 1
      (fun (z : Value × List (List Int) × (Nat → Value)) K' => Froz K' z.1 z.2.1.length 1 (vrow z.2.2) ∧ VL K' N z.2.1 z.2.2 ∧ z.2.1.Pairwise (ltV N) ∧ (∀ w, w ∈ z.2.1 ↔ w ∈ X) ∧ z.2.1.length ≤ X.length) (fun z => ⟨.val z.1, [], 1⟩) := by
  refine hcx_of_run Try.func32 rfl (fun B hB hK hpin => ?_)
  have hF0 : Fz B K M0 B K := .refl hB hK
  refine goT hB [] 400 rfl (by first | exact conj_nil | simp [conj]) ?_
  refine run_loop ?_
  refine run_inv (ι := Nat × List (List Int) × (Nat → Value)) hpin (fun x => x.1 ≤ X.length ∧ VL K N x.2.1 x.2.2 ∧ x.2.1.Pairwise (ltV N) ∧ (∀ w, w ∈ x.2.1 ↔ w ∈ X.take x.1) ∧ x.2.1.length ≤ x.1) (fun x => X.length - x.1)
    (fun x => [(4, i64 x.1), (3, .sq 1 0 0 1 x.2.1.length .own), (0, .sq 0 0 0 1 X.length .no)]) (fun _ => []) (fun x => [(1, .row 0 x.2.1.length x.2.1.length 1 (vrow x.2.2) 23), (0, .row 0 X.length X.length 1 (vrow XW) 23)]) 2 (0, [], XW)
    ⟨Nat.zero_le _, VL.nil _ _ _, List.Pairwise.nil, fun w => by simp, Nat.le_refl _⟩ [0, 1] rfl rfl (by simp [conj, less_rfl, ren_vrow, renR_vrow]) ?_
  rintro ⟨i, Y, YW⟩ ⟨hi, hY, hYs, hYm, hYl⟩ ih
  dsimp only at hi hY hYs hYm hYl ih ⊢
  refine goT hB [(32, 9)] 400 rfl (by clear ih; first | exact conj_nil | simp [conj]) ?_
  by_cases hin : i < X.length
  · have e0 : 0 + ((i : Nat) : Int).toNat = i := by omega
    have hxi := hX i hin
    obtain ⟨x, hx⟩ : ∃ x, x = X.getD i [] := ⟨_, rfl⟩
    rw [← hx] at hxi
    have htk : X.take (i + 1) = X.take i ++ [x] := by
      rw [hx, List.take_succ_eq_append_getElem hin, List.getD_eq_getElem?_getD, List.getElem?_eq_getElem hin]; rfl
    refine run_tt (by simpa using hin) ?_
    refine goT hB [] 400 rfl (by clear ih; first | exact conj_nil | simp [conj]) ?_
    refine run_loop ?_
    refine run_inv (ι := Nat) hpin (fun k => k ≤ Y.length ∧ ∀ j, j < k → ltV N (Y.getD j []) x) (fun k => Y.length - k)
      (fun k => [(5, i64 k), (4, i64 i), (3, .sq 1 0 0 1 Y.length .own), (0, .sq 0 0 0 1 X.length .no)]) (fun _ => []) (fun _ => [(1, .row 0 Y.length Y.length 1 (vrow YW) 23), (0, .row 0 X.length X.length 1 (vrow XW) 23)]) 2 0 ⟨Nat.zero_le _, fun j hj => absurd hj (Nat.not_lt_zero _)⟩ [0, 1] rfl rfl (by clear ih; simp [conj, less_rfl, ren_vrow, renR_vrow]) ?_
    rintro k ⟨hk, hkl⟩ ihk
    refine goT hB [] 2 rfl (by clear ih ihk; first | exact conj_nil | simp [conj]) ?_
    refine run_draw0 mixed (fun t => ?_)
    refine run_drawK (M := modeJ) (kn := K) hK 1 5 rfl named hB (sumOk_nil _) [] trivial rfl rfl rfl rfl rfl rfl (by clear ih ihk; first | exact conj_nil | simp [conj]) (fun t => ?_)
    by_cases hkY : k < Y.length
    · refine run_tt (by simpa using hkY) ?_
      have e1 : 0 + ((k : Nat) : Int).toNat = k := by omega
      have hyk := hY k hkY
      refine run_drawK (M := modeJ) (kn := K) hK 1 8 rfl named hB (sumOk_nil _) [] trivial rfl rfl rfl rfl rfl rfl (by clear ih ihk; simp [conj, hin, hkY]) (fun t => ?_)
      refine run_chain rfl rfl ?_
      rw [e0, e1]
      refine run_callCK (less_hck (YW k) (XW i) N (by omega) (fun j => (Y.getD k []).getD j 0) (fun j => x.getD j 0) hyk.2 (by rw [hx]; exact (hX i hin).2)) named hB hK [] rfl rfl rfl rfl (by first | exact conj_nil | simp [conj]) (by clear ih ihk; simp [conj, less_rfl]) ?_
      rintro ⟨⟩ _
      refine ⟨show 0 ≤ 0 by omega, _, _, _, rfl, rfl, rfl, ?_⟩
      refine goT hB [(32, 26)] 400 rfl (by clear ih ihk; first | exact conj_nil | simp [conj]) ?_
      by_cases hlt : ltV N (Y.getD k []) x
      · have ihk := ihk (k + 1) ⟨by omega, fun j hj => by
          rcases Nat.eq_or_lt_of_le (Nat.le_of_lt_succ hj) with e | e
          · rw [e]; exact hlt
          · exact hkl j e⟩ (by omega)
        refine run_tt (by simpa [ltV] using hlt) ?_
        refine goT hB [] 400 rfl (by clear ih ihk; simp [conj, Fits_i64]; omega) ?_
        refine run_back ?_
        refine run_to hpin [0, 1] rfl rfl ?_ ihk
        clear ih ihk
        simp [conj, less_rfl, ren_vrow, renR_vrow]
      · clear ihk
        refine run_ff (by simpa [ltV] using hlt) ?_
        refine goT hB [] 5 rfl (by clear ih; first | exact conj_nil | simp [conj]) ?_
        refine run_draw0 mixed (fun t => ?_)
        refine run_drawK (M := modeJ) (kn := K) hK 1 5 rfl named hB (sumOk_nil _) [] trivial rfl rfl rfl rfl rfl rfl (by clear ih; first | exact conj_nil | simp [conj]) (fun t => ?_)
        refine run_tt (by simpa using hkY) ?_
        refine run_drawK (M := modeJ) (kn := K) hK 1 8 rfl named hB (sumOk_nil _) [] trivial rfl rfl rfl rfl rfl rfl (by clear ih; simp [conj, hin, hkY]) (fun t => ?_)
        refine run_chain rfl rfl ?_
        rw [e0, e1]
        refine run_callCK (less_hck (XW i) (YW k) N (by omega) (fun j => x.getD j 0) (fun j => (Y.getD k []).getD j 0) (by rw [hx]; exact (hX i hin).2) hyk.2) named hB hK [] rfl rfl rfl rfl (by first | exact conj_nil | simp [conj]) (by clear ih; simp [conj, less_rfl]) ?_
        rintro ⟨⟩ _
        refine ⟨show 0 ≤ 0 by omega, _, _, _, rfl, rfl, rfl, ?_⟩
        refine goT hB [(32, 43)] 400 rfl (by clear ih; first | exact conj_nil | simp [conj]) ?_
        by_cases hgt : ltV N x (Y.getD k [])
        · refine run_ff (by unfold ltV at hgt; rw [decide_eq_true hgt]; rfl) ?_
          have hins := ins_ok hY hYs hYm hxi k hk hkl (fun _ => hgt)
          have ih := ih (i + 1, Y.take k ++ ([x] ++ Y.drop k), catW (Y.take k).length YW (catW 1 (fun _ => XW i) fun j => YW (k + j))) ⟨hin, hins.1, hins.2.1, fun w => by
            show w ∈ Y.take k ++ ([x] ++ Y.drop k) ↔ w ∈ X.take (i + 1)
            rw [htk, hins.2.2 w], by
            show (Y.take k ++ ([x] ++ Y.drop k)).length ≤ i + 1
            simp; omega⟩ (by show X.length - (i + 1) < X.length - i; omega)
          have hlen : (Y.take k ++ ([x] ++ Y.drop k)).length = k + 1 + (Y.length - k) := by simp; omega
          have hlt1 : (Y.take k).length = k := by rw [List.length_take]; omega
          dsimp only at ih
          rw [hlen, hlt1] at ih
          refine goT hB [] 400 rfl (by clear ih hins; simp [conj, Fits_i64]; (repeat' apply And.intro) <;> first | omega | (intros; rfl)) ?_
          refine run_back ?_
          refine run_to hpin [0, 41] rfl rfl ?_ ih
          clear ih hins
          simp [conj, less_rfl, ren_vrow, renR_vrow]
          exact fun a _ => ins_less YW (XW i) k a
        · refine run_tt (by unfold ltV at hgt; rw [decide_eq_false hgt]; rfl) ?_
          have hxy : Y.getD k [] = x := ltV_eq hyk.1 hxi.1 hlt hgt
          have ih := ih (i + 1, Y, YW) ⟨hin, hY, hYs, fun w => by
            show w ∈ Y ↔ w ∈ X.take (i + 1)
            rw [htk, List.mem_append, List.mem_singleton, ← hYm w]
            refine ⟨.inl, fun q => q.elim id fun q => ?_⟩
            rw [q, ← hxy, List.getD_eq_getElem?_getD, List.getElem?_eq_getElem hkY]
            exact List.getElem_mem hkY, by show Y.length ≤ i + 1; omega⟩ (by show X.length - (i + 1) < X.length - i; omega)
          dsimp only at ih
          refine goT hB [] 400 rfl (by clear ih; simp [conj, Fits_i64]; omega) ?_
          refine run_back ?_
          refine run_to hpin [0, 1] rfl rfl ?_ ih
          clear ih
          simp [conj, less_rfl, ren_vrow, renR_vrow]
    · clear ihk
      refine run_ff (by simpa using hkY) ?_
      refine run_drawK (M := modeJ) (kn := K) hK 1 10 rfl named hB (sumOk_nil _) [] trivial rfl rfl rfl rfl rfl rfl (by clear ih; first | exact conj_nil | simp [conj]) (fun t => ?_)
      refine run_drawE rfl ?_
      refine goT hB [] 5 rfl (by clear ih; first | exact conj_nil | simp [conj]) ?_
      refine run_draw0 mixed (fun t => ?_)
      refine run_drawK (M := modeJ) (kn := K) hK 1 5 rfl named hB (sumOk_nil _) [] trivial rfl rfl rfl rfl rfl rfl (by clear ih; first | exact conj_nil | simp [conj]) (fun t => ?_)
      refine run_ff (by simpa using hkY) ?_
      refine run_drawK (M := modeJ) (kn := K) hK 1 11 rfl named hB (sumOk_nil _) [] trivial rfl rfl rfl rfl rfl rfl (by clear ih; simp [conj]) (fun t => ?_)
      refine run_drawE rfl ?_
      have hins := ins_ok hY hYs hYm hxi k hk hkl (fun q => absurd q hkY)
      have ih := ih (i + 1, Y.take k ++ ([x] ++ Y.drop k), catW (Y.take k).length YW (catW 1 (fun _ => XW i) fun j => YW (k + j))) ⟨hin, hins.1, hins.2.1, fun w => by
        show w ∈ Y.take k ++ ([x] ++ Y.drop k) ↔ w ∈ X.take (i + 1)
        rw [htk, hins.2.2 w], by
        show (Y.take k ++ ([x] ++ Y.drop k)).length ≤ i + 1
        simp; omega⟩ (by show X.length - (i + 1) < X.length - i; omega)
      have hlen : (Y.take k ++ ([x] ++ Y.drop k)).length = k + 1 + (Y.length - k) := by simp; omega
      have hlt1 : (Y.take k).length = k := by rw [List.length_take]; omega
      dsimp only at ih
      rw [hlen, hlt1] at ih
      refine goT hB [] 400 rfl (by clear ih hins; simp [conj, Fits_i64]; (repeat' apply And.intro) <;> first | omega | (intros; rfl)) ?_
      refine run_back ?_
      refine run_to hpin [0, 46] rfl rfl ?_ ih
      clear ih hins
      simp [conj, less_rfl, ren_vrow, renR_vrow]
      exact fun a _ => ins_less YW (XW i) k a
  · clear ih
    have : i = X.length := by omega
    subst this
    refine run_ff (by simp) ?_
    refine goT hB [] 400 rfl (by first | exact conj_nil | simp [conj]) ?_
    refine run_freeze hB hK 2 rfl rfl (Nat.le_refl _) (fun a c _ _ => rfl) rfl (fun w B5 K5 hv5 hF5 hp5 => ?_)
    rw [List.take_length] at hYm
    refine run_retF hF5 (hpin.fz hF5 hp5) (w, Y, YW) ⟨hv5, hY.fz hF5, hYs, hYm, hYl⟩ [0] rfl rfl (by first | exact conj_nil | simp [conj]) rfl ?_
    simp [conj, less_rfl]
end Sx
