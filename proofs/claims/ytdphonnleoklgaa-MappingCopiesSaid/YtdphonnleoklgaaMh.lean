/- All, Pages. Conditions: as each theorem says. -/
import Derived.Test.YtdphonnleoklgaaMg
set_option linter.unusedSimpArgs false
set_option linter.unusedVariables false
namespace Sx
open Go Go.Proofs
set_option maxRecDepth 100000
def modeH : Mode := { st := true, unr := false, inl := fun f => !hasN f [10, 18, 19, 27, 39, 44, 46], sum := sumOf s2, keep := fun _ => none }
theorem goH {B : Base} (hB : B.ok) {ro : Hp} {f : FuncId} {R : Ending → World → Prop} {cs0 cs : List Prop} {c c0 c' : Cfg} (h0 : stepD Try.prog modeH ro c = some (cs0, c0)) (h : execG Try.prog modeH ro 400 cs0 c0 = (cs, c')) (hc : conj cs)
    (hr : Run Try.prog ro B f R c') : Run Try.prog ro B f R c := run_go mixed named hB s2_ok 400 h0 h hc hr
abbrev prN (A C : List Int) (a b c d : Nat) : Hp := [(a, .cells [.sq c 0 0 1 A.length .own] 59), (b, .cells [.sq d 0 0 1 C.length .own] 59), (c, .row 0 A.length A.length 1 (rowL .i64 A) 3), (d, .row 0 C.length C.length 1 (rowL .i64 C) 3)]
theorem appI_row {l : List Int} {i : Nat} (hi : i < l.length) {c : Int} (hc : l.getD i 0 = c) (j : Nat) (hj : j < i + 1) :
    rowL .i64 l j 0 = appF (rowL .i64 l) i (fun a k => [SV.int .i64 c][a + k]?.getD .und) j 0 := by
  unfold appF
  by_cases h : j < i
  · have hb : Nat.blt j i = true := by simpa [Nat.blt_eq] using h
    rw [hb]; rfl
  · have : j = i := by omega
    subst this
    have hb : Nat.blt j j = false := by
      cases hq : Nat.blt j j with
      | false => rfl
      | true => rw [Nat.blt_eq] at hq; omega
    rw [hb]
    simp only [rowL, hc, cond_false]
    simp
theorem keysS {S T : Int} {L : Ld} (h : MInv S T L) : KeysOf (hasS L) (L.map (·.1)) := by
  refine ⟨by rw [List.pairwise_map]; exact h.lt, fun a => ?_⟩
  rw [List.mem_map, hasS_iff]
set_option maxHeartbeats 4000000 in
theorem all_hc (S Bk P : Int) (L : Ld) (hL : MInv S (Bk * P) L) (hn : L.length < 100000) : HC Try.prog 18 [.ptr 0 0] (mpH S Bk P L) [] 4 (fun _ : Unit => True) (fun _ => ⟨.clo (.func 38) [] [.ptr 4 0, .ptr 5 0], mpH S Bk P L ++ prN (L.map (·.1)) (L.map (·.2)) 4 5 6 7, 8⟩) := by
  refine hc_of_run Try.func18 rfl (fun B hB hpin => ?_)
  refine goH hB rfl rfl (by simp [conj, isPt25, isMp58]) ?_
  refine run_condF rfl rfl ?_
  refine goH hB rfl rfl (by simp [conj, isPt25, isMp58]) ?_
  refine run_callC (sorted_hc (hasS L) (pgS L) (L.map (·.1)) (keysS hL) (by simp; omega)) named hB [4, 1] rfl rfl rfl rfl (by simp [conj]) (by simp [conj, less_rfl]) ?_
  rintro ⟨⟩ _
  refine ⟨show 2 ≤ 3 by omega, _, _, _, rfl, rfl, rfl, ?_⟩
  refine goH hB rfl rfl (by simp [conj, isPt25, isMp58]) ?_
  refine run_loop ?_
  have hml : (L.map (·.1)).length = L.length := by simp
  refine run_inv (ι := Nat) hpin (fun i => i ≤ L.length) (fun i => L.length - i)
    (fun i => [(17, i64 i), (16, i64 L.length), (15, .sq 4 0 0 1 L.length .own), (3, .sq 4 0 0 1 L.length .own), (4, .sq 5 0 0 1 i .own), (0, .ptr 0 0)]) (fun _ => [])
    (fun i => mpH S Bk P L ++ [(4, .row 0 L.length L.length 1 (rowL .i64 (L.map (·.1))) 3), (5, .row 0 i i 1 (rowL .i64 (L.map (·.2))) 3)]) 6 0 (Nat.zero_le _)
    [0, 1, 2, 3, 5, 6] rfl rfl (by simp [conj, less_rfl, ren_cntF, ren_rowL, renR_rowL]) ?_
  intro i h1 ih
  refine goH hB rfl rfl (by simp [conj]) ?_
  refine run_cond rfl (fun h => ?_) (fun h => ?_)
  · have hi : i < L.length := by simpa using h
    have ih := ih (i + 1) (by omega) (by omega)
    refine goH hB rfl rfl ?_ ?_
    · clear ih
      simp [conj, Fits_i64, hi]
      omega
    refine run_back ?_
    refine run_to hpin [0, 1, 2, 3, 4, 7] rfl rfl ?_ ih
    clear ih
    simp [conj, less_rfl, ren_cntF, ren_rowL, renR_rowL]
    refine fun j hj => Less.of ?_
    have hm : L[i] ∈ L := List.getElem_mem hi
    have hS : hasS L L[i].1 = true := hasS_iff.2 ⟨_, hm, rfl⟩
    have := appI_row (l := L.map (·.2)) (i := i) (by simpa using hi) (c := L[i].2) (by simp [hi]) j hj
    rw [this]
    simp [hi, hS, hL.pg hm]
  · clear ih
    have : i = L.length := by simp at h; omega
    subst this
    refine goH hB rfl rfl (by simp [conj]) ?_
    refine run_retC hpin () trivial [0, 1, 2, 3, 6, 7, 4, 5] rfl rfl (by simp [conj]) rfl ?_
    simp [conj, less_rfl, ren_cntF, ren_rowL, renR_rowL]
def ofTo (L : Ld) (P b : Int) (k : Nat) : Ld := (List.range k).filterMap fun (j : Nat) => if hasP L (b * P + (j : Int)) = true then some (scP L (b * P + (j : Int)), b * P + (j : Int)) else none
theorem ofTo_succ (L : Ld) (P b : Int) (k : Nat) : ofTo L P b (k + 1) = ofTo L P b k ++ if hasP L (b * P + (k : Int)) = true then [(scP L (b * P + (k : Int)), b * P + (k : Int))] else [] := by
  unfold ofTo
  rw [List.range_succ, List.filterMap_append]
  congr 1
  by_cases h : hasP L (b * P + (k : Int)) = true
  · simp [h]
  · simp [h]
def ofL (L : Ld) (Bk P b : Int) : Ld := if 0 ≤ b ∧ b < Bk then ofTo L P b P.toNat else []
theorem ofTo_len (L : Ld) (P b : Int) (k : Nat) : (ofTo L P b k).length ≤ k := by
  unfold ofTo
  have := List.length_filterMap_le (fun j : Nat => if hasP L (b * P + (j : Int)) = true then some (scP L (b * P + (j : Int)), b * P + (j : Int)) else none) (List.range k)
  simpa using this
theorem mem_ofTo {L : Ld} {P b : Int} {k : Nat} {x : Int × Int} : x ∈ ofTo L P b k ↔ ∃ j : Nat, j < k ∧ hasP L (b * P + (j : Int)) = true ∧ x = (scP L (b * P + (j : Int)), b * P + (j : Int)) := by
  unfold ofTo
  rw [List.mem_filterMap]
  constructor
  · rintro ⟨j, hj, e⟩
    split at e
    · rename_i h
      injection e with e
      exact ⟨j, List.mem_range.1 hj, h, e.symm⟩
    · cases e
  · rintro ⟨j, hj, h, e⟩
    exact ⟨j, List.mem_range.2 hj, by rw [if_pos h, e]⟩
theorem ofTo_nodup (L : Ld) (P b : Int) : ∀ k : Nat, ((ofTo L P b k).map (·.2)).Nodup
  | 0 => by simp [ofTo]
  | k + 1 => by
    rw [ofTo_succ, List.map_append, List.nodup_append]
    refine ⟨ofTo_nodup L P b k, by split <;> simp, fun a ha c hc => ?_⟩
    obtain ⟨x, hx, rfl⟩ := List.mem_map.1 ha
    obtain ⟨j, hj, _, rfl⟩ := mem_ofTo.1 hx
    split at hc
    · simp at hc
      subst hc
      show b * P + (j : Int) ≠ b * P + (k : Int)
      omega
    · simp at hc
theorem cnt_of {S T : Int} {L : Ld} (h : MInv S T L) {P b : Int} (hP : 0 < P) : cnt L P b = (ofTo L P b P.toNat).length := by
  unfold cnt
  rw [List.countP_eq_length_filter]
  have h1 : ((L.filter fun x => decide (x.2 / P = b)).map (·.2)).Nodup := by
    rw [List.nodup_iff_pairwise_ne, List.pairwise_map]
    exact h.nd.sublist List.filter_sublist
  have h2 := ofTo_nodup L P b P.toNat
  have := ((List.perm_ext_iff_of_nodup h1 h2).2 fun a => ?_).length_eq
  · rw [List.length_map, List.length_map] at this
    exact_mod_cast this
  · rw [List.mem_map, List.mem_map]
    constructor
    · rintro ⟨x, hx, rfl⟩
      rw [List.mem_filter] at hx
      obtain ⟨g1, g2⟩ := hx
      have g2 : x.2 / P = b := by simpa using g2
      have g3 := Int.mul_ediv_add_emod x.2 P
      have g4 := Int.emod_nonneg x.2 (show P ≠ 0 by omega)
      have g5 := Int.emod_lt_of_pos x.2 hP
      have g6 : b * P = P * (x.2 / P) := by rw [g2, Int.mul_comm]
      have g7 : b * P + ((x.2 % P).toNat : Int) = x.2 := by omega
      refine ⟨(scP L x.2, x.2), mem_ofTo.2 ⟨(x.2 % P).toNat, by omega, ?_, ?_⟩, rfl⟩
      · rw [g7]; exact hasP_iff.2 ⟨x, g1, rfl⟩
      · rw [g7]
    · rintro ⟨x, hx, rfl⟩
      obtain ⟨j, hj, hp, rfl⟩ := mem_ofTo.1 hx
      obtain ⟨y, hy, e⟩ := hasP_iff.1 hp
      refine ⟨y, List.mem_filter.2 ⟨hy, ?_⟩, e⟩
      rw [decide_eq_true_iff, e, Int.add_comm, Int.add_mul_ediv_right _ _ (by omega), Int.ediv_eq_zero_of_lt (by omega) (by omega)]; omega
theorem app_rowL2 (l : List Int) (a : Int) (n : Nat) (hn : n = l.length) (i : Nat) (hi : i < n + 1) : rowL .i64 (l ++ [a]) i 0 = appF (rowL .i64 l) n (fun i j => [SV.int .i64 a][i + j]?.getD .und) i 0 := by
  subst hn
  exact app_rowL l a i hi
set_option maxHeartbeats 4000000 in
theorem pages_hc (S Bk P : Int) (hN : okN S Bk P = true) (L : Ld) (hL : MInv S (Bk * P) L) (b : Int) :
    HC Try.prog 19 [.ptr 0 0, i64 b] (mpH S Bk P L) [] 4 (fun _ : Unit => True) (fun _ => ⟨.clo (.func 38) [] [.ptr 4 0, .ptr 5 0], mpH S Bk P L ++ prN ((ofL L Bk P b).map (·.2)) ((ofL L Bk P b).map (·.1)) 4 5 6 7, 8⟩) := by
  have hN' := okN_iff.1 hN
  refine hc_of_run Try.func19 rfl (fun B hB hpin => ?_)
  refine goH hB rfl rfl (by simp [conj, isPt25, isMp58]) ?_
  refine run_cond rfl (fun h => ?_) (fun h => ?_)
  · have he : ofL L Bk P b = [] := if_neg (by simp at h; omega)
    refine goH hB rfl rfl (by simp [conj, isPt25, isMp58]) ?_
    refine run_condF rfl rfl ?_
    refine goH hB rfl rfl (by simp [conj, isPt25, isMp58]) ?_
    refine run_retC hpin () trivial [0, 1, 2, 3, 4, 5, 6, 7] rfl rfl (by simp [conj]) rfl ?_
    rw [he]
    simp [conj, less_rfl, ren_cntF]
  have hb : 0 ≤ b ∧ b < Bk := by simp at h; omega
  refine goH hB rfl rfl (by simp [conj]; omega) ?_
  have hc := cnt_of hL (b := b) (show 0 < P by omega)
  refine run_cond rfl (fun h0 => ?_) (fun h0 => ?_)
  · have hbP1 : 0 ≤ b * P := Int.mul_nonneg hb.1 (by omega)
    have hbP2 : b * P ≤ 4096 * 512 := Int.mul_le_mul (by omega) (by omega) (by omega) (by omega)
    have hbP3 : (b + 1) * P = b * P + P := by rw [Int.add_mul]; omega
    refine goH hB rfl rfl (by simp [conj, Fits_i64]; omega) ?_
    refine run_loop ?_
    refine run_inv (ι := Nat) hpin (fun k => (k : Int) ≤ P) (fun k => P.toNat - k)
      (fun k => [(7, i64 (b * P + (k : Int))), (5, .sq 4 0 0 1 (ofTo L P b k).length .own), (6, .sq 5 0 0 1 (ofTo L P b k).length .own), (0, .ptr 0 0), (1, i64 b)]) (fun _ => [])
      (fun k => mpH S Bk P L ++ [(4, .row 0 (ofTo L P b k).length (ofTo L P b k).length 1 (rowL .i64 ((ofTo L P b k).map (·.2))) 3), (5, .row 0 (ofTo L P b k).length (ofTo L P b k).length 1 (rowL .i64 ((ofTo L P b k).map (·.1))) 3)]) 6 0 (by omega)
      [0, 1, 2, 3, 4, 5] rfl rfl (by simp [conj, less_rfl, ren_cntF, ren_rowL, renR_rowL, ofTo]) ?_
    intro k hk ih
    have hlen := ofTo_len L P b k
    refine goH hB rfl rfl (by simp [conj, Fits_i64]; omega) ?_
    refine run_cond rfl (fun h1 => ?_) (fun h1 => ?_)
    · have hk1 : (k : Int) < P := by simp at h1; omega
      have ih := ih (k + 1) (by omega) (by omega)
      refine goH hB rfl rfl (by simp [conj]) ?_
      refine run_cond rfl (fun hp => ?_) (fun hp => ?_)
      · have hp' : hasP L (b * P + (k : Int)) = true := hp
        rw [ofTo_succ, if_pos hp'] at ih
        refine goH hB rfl rfl ?_ ?_
        · clear ih
          simp [conj, Fits_i64]
          omega
        refine run_back ?_
        refine run_to hpin [0, 1, 2, 3, 7, 9] rfl rfl ?_ ih
        clear ih
        simp [conj, less_rfl, ren_cntF, ren_rowL, renR_rowL, hp']
        exact ⟨by omega, fun j hj => Less.of (app_rowL2 _ _ _ (by simp) j hj), fun j hj => Less.of (app_rowL2 _ _ _ (by simp) j hj)⟩
      · have hp' : hasP L (b * P + (k : Int)) = false := by simpa using hp
        have e1 : ofTo L P b (k + 1) = ofTo L P b k := by rw [ofTo_succ, hp']; simp
        rw [e1] at ih
        refine goH hB rfl rfl (by simp [conj, Fits_i64]; omega) ?_
        refine run_back ?_
        refine run_to hpin [0, 1, 2, 3, 4, 5] rfl rfl ?_ ih
        clear ih
        simp [conj, less_rfl, ren_cntF, ren_rowL, renR_rowL]
        try omega
    · clear ih
      have hk1 : k = P.toNat := by simp at h1; omega
      have he : ofL L Bk P b = ofTo L P b k := by rw [hk1]; exact if_pos hb
      refine goH hB rfl rfl (by simp [conj]) ?_
      refine run_retC hpin () trivial [0, 1, 2, 3, 6, 7, 4, 5] rfl rfl (by simp [conj]) rfl ?_
      rw [he]
      simp [conj, less_rfl, ren_cntF, ren_rowL, renR_rowL]
  · have he : ofL L Bk P b = [] := by
      unfold ofL
      rw [if_pos hb]
      have h0 : ¬ 0 < cnt L P b := by
        have e : ((0 + b.toNat : Nat) : Int) = b := by omega
        rw [e] at h0
        simpa using h0
      exact List.length_eq_zero_iff.1 (by omega)
    refine goH hB rfl rfl (by simp [conj, isPt25, isMp58]) ?_
    refine run_retC hpin () trivial [0, 1, 2, 3, 4, 5, 6, 7] rfl rfl (by simp [conj]) rfl ?_
    rw [he]
    simp [conj, less_rfl, ren_cntF]
end Sx
