/- slices.Sorted(maps.Keys(m)) for the members of the examples; what state and list give there. Conditions: as each theorem says. -/
import Derived.Test.YtlpbmlfejiaamaaNa
set_option linter.unusedSimpArgs false
set_option linter.unusedVariables false
namespace Sx
open Go Go.Proofs
set_option maxRecDepth 100000
/-- The keys of h, in order. -/
def KeysOf (h : Int → Bool) (l : List Int) : Prop := l.Pairwise (· < ·) ∧ ∀ a, a ∈ l ↔ h a = true
theorem len_le {h S : Int → Bool} {l zs : List Int} (hk : KeysOf h l) (hn : zs.Nodup) (hm : ∀ a, a ∈ zs ↔ S a = true) (hs : ∀ a, S a = true → h a = true) : zs.length ≤ l.length :=
  List.Nodup.length_le_of_subset hn fun a ha => (hk.2 a).2 (hs a ((hm a).1 ha))
theorem seen_sub {S H : Int → Bool} {a : Int} (h : ∀ y, S y = true → H y = true) (ha : H a = true) (y : Int) (hy : (ieq y a || S y) = true) : H y = true := by
  rw [Bool.or_eq_true] at hy
  rcases hy with hy | hy
  · have : y = a := by simpa [ieq] using hy
    rw [this]; exact ha
  · exact h y hy
theorem app_rowL (l : List Int) (a : Int) (i : Nat) (hi : i < l.length + 1) :
    rowL .u32 (l ++ [a]) i 0 = appF (rowL .u32 l) l.length (fun i j => [SV.int .u32 a][i + j]?.getD .und) i 0 := by
  unfold appF
  by_cases h : i < l.length
  · have hb : Nat.blt i l.length = true := by simpa [Nat.blt_eq] using h
    rw [hb, cond_true]
    simp [rowL, h, List.getElem?_append_left h]
  · have : i = l.length := by omega
    subst this
    have hb : Nat.blt l.length l.length = false := by
      cases hq : Nat.blt l.length l.length with
      | false => rfl
      | true => rw [Nat.blt_eq] at hq; omega
    rw [hb, cond_false]
    simp [rowL]
theorem ren_rowL (nx : Nat) (sg : List Nat) (k : IntKind) (l : List Int) (i j : Nat) : ren nx sg (rowL k l i j) = rowL k l i j := by
  unfold rowL; split <;> simp only [ren, renF, id]
theorem renR_rowL (nx : Nat) (sg : List Nat) (k : IntKind) (l : List Int) : renR nx sg (rowL k l) = rowL k l := by funext i j; exact ren_rowL nx sg k l i j
theorem collect_hc (h : Int → Bool) (v : Int → Int) (l : List Int) (hk : KeysOf h l) (hl : l.length < 1000000) :
    HC Try.prog 86 [.nilsl, .clo (.func 84) [] [.ptr 0 0]] [(0, .cells [.mp 1] 62), (1, .map .u32 h (.ints .i64 v))] [] 2 (fun z : List Int => z.Nodup ∧ ∀ a, a ∈ z ↔ h a = true)
      (fun z => ⟨.sq 2 0 0 1 z.length .own, [(0, .cells [.mp 1] 62), (1, .map .u32 h (.ints .i64 v)), (2, .row 0 z.length z.length 1 (rowL .u32 z) 29)], 3⟩) := by
  refine hc_of_run Try.func86 rfl (fun B hB hpin => ?_)
  refine goK hB rfl rfl (by simp [conj]) ?_
  refine run_range named hB rfl rfl (by simp [conj]) rfl rfl rfl rfl ?_
  intro D l'
  have hB1 : (B.pin2 3 D l').ok := Base.pin2_ok hB
  have hpin1 : PinTo (B.pin2 3 D l') 5 := hpin.pin2 (by omega)
  refine goK hB1 rfl rfl (by simp [conj]) ?_
  refine run_mrange hB1 rfl rfl rfl conj_nil rfl rfl (fun es clock hK => ⟨_, _, rfl, rfl, ?_⟩)
  refine goK hB1 rfl rfl conj_nil ?_
  refine run_loop ?_
  refine run_invK (ι := Array Nat × (Int → Bool) × List Int) hpin1 (fun z => SeenIs .u32 es z.1 z.2.1 ∧ (∀ a, z.2.1 a = true → h a = true) ∧ z.2.2.Nodup ∧ ∀ a, a ∈ z.2.2 ↔ z.2.1 a = true) (fun z => (leftOf es z.1).size) (fun _ => [(0, .clo (.yield l') [] []), (5, .ptr 5 0)]) (fun _ => [[(2, .ptr 2 0)]]) [3, 4]
    (fun z => [(0, .cells [.mp 1] 62), (1, .mape .u32 h (.ints .i64 v) es clock), (2, .cells [.sq 6 0 0 1 z.2.2.length .own] 48), (5, .mit 1 clock z.1 clock), (6, .row 0 z.2.2.length z.2.2.length 1 (rowL .u32 z.2.2) 29)]) 7 (#[], (fun _ => false), []) ⟨seenIs_zero _ _, fun a ha => by (cases ha), List.nodup_nil, fun a => by simp⟩
    [0, 1, 2, 3, 4, 5, 6] rfl rfl (by simp [conj, less_rfl, ren_rowL]) ?_
  rintro ⟨seen, S, zs⟩ ⟨hS, hSi, hN, hM⟩ ih
  refine goK hB1 rfl rfl conj_nil ?_
  refine run_mnext hK hS rfl rfl rfl conj_nil rfl rfl (fun hov => ⟨_, rfl, ?_⟩) (fun a seen' ha hSa hS' hL hlt => ⟨_, _, rfl, rfl, ?_⟩)
  · clear ih
    have hSh : S = h := by
      funext a
      exact Bool.eq_iff_iff.2 ⟨hSi a, hov a⟩
    refine goK hB1 rfl rfl (by simp [conj]) ?_
    refine run_inR [] (.inl rfl) trivial rfl rfl (by simp [conj]) ?_
    refine run_endR 4 rfl rfl (by decide) rfl ?_
    refine goK hB1 rfl rfl (by simp [conj]) ?_
    refine run_retMC ((More.refl B).pin2 hpin (by omega)) hpin zs ⟨hN, by rw [← hSh]; exact hM⟩ [3] [0, 1, 6] (.inr ⟨_, rfl⟩) ⟨rfl, rfl, trivial⟩ rfl rfl rfl (by simp [conj]) rfl ?_
    simp [conj, less_rfl, ren_rowL]
  · refine goK hB1 rfl rfl (by simp [conj]) ?_
    refine run_mentry hK hL rfl rfl rfl conj_nil rfl rfl rfl ?_
    refine goK hB1 rfl rfl (by simp [conj]) ?_
    refine run_yield 4 rfl rfl (by simp [conj]) rfl rfl rfl ?_
    refine goK hB1 rfl rfl (by simp [conj]) ?_
    refine run_begin 4 rfl rfl rfl rfl ?_
    have hnM : zs.length ≤ l.length := len_le hk hN hM hSi
    refine goK hB1 rfl rfl (by simp [conj]; omega) ?_
    refine run_round 4 .off rfl rfl rfl rfl ?_
    refine goK hB1 rfl rfl (by simp [conj]) ?_
    refine run_back ?_
    have ha' : a ∉ zs := fun hq => by rw [hM a, hSa] at hq; cases hq
    have hfin := ih (seen', (fun y => ieq y a || S y), zs ++ [a]) ⟨hS', fun y hy => seen_sub hSi ha y hy, by
      simp only
      rw [List.nodup_append]
      refine ⟨hN, by simp, fun x hx y hy => ?_⟩
      have : y = a := by simpa using hy
      subst this
      exact fun q => ha' (q ▸ hx), fun y => by
      simp only [List.mem_append, List.mem_singleton, Bool.or_eq_true, hM y]
      unfold ieq
      rw [decide_eq_true_iff]
      exact ⟨fun q => q.symm, fun q => q.symm⟩⟩ hlt
    clear ih
    refine run_to hpin1 [0, 1, 2, 3, 4, 5, 8] rfl rfl ?_ hfin
    clear hfin
    simp [conj, less_rfl, ren_rowL]
    exact ⟨rfl, fun i hi => Less.of (app_rowL zs a i hi)⟩
theorem sort_hc (zs : List Int) (hz : zs = [5, 7] ∨ zs = [7, 5]) : HC Try.prog 83 [.sq 0 0 0 1 2 .no] [(0, .row 0 2 2 1 (rowL .u32 zs) 29)] [] 1 (fun _ : Unit => True) (fun _ => ⟨.tup [], [(0, .row 0 2 2 1 (rowL .u32 [5, 7]) 29)], 1⟩) := by
  refine hc_of_run Try.func83 rfl (fun B hB hpin => ?_)
  rcases hz with rfl | rfl
  · refine goX hB 2000 rfl (by simp [conj, Fits_i64] <;> decide +kernel) ?_
    refine run_endC hpin () trivial [0] rfl rfl (by simp [conj]) rfl ?_
    simp [conj, less_rfl, ren_rowL]
  · refine goX hB 2000 rfl (by simp [conj, Fits_i64] <;> decide +kernel) ?_
    refine run_endC hpin () trivial [0] rfl rfl (by simp [conj]) rfl ?_
    simp [conj, less_rfl, ren_rowL]
    intro i hi
    match i, hi with
    | 0, _ => exact Less.rfl
    | 1, _ => exact Less.rfl
/-- The members of the examples. -/
abbrev h57 : Int → Bool := fun a => ieq a 5 || (ieq a 7 || false)
theorem keys57 : KeysOf h57 [5, 7] := by
  refine ⟨by simp, fun a => ?_⟩
  simp [h57, ieq]
theorem two_of {zs : List Int} (hn : zs.Nodup) (hm : ∀ a, a ∈ zs ↔ h57 a = true) : zs = [5, 7] ∨ zs = [7, 5] := by
  have hp : zs.Perm [5, 7] := (List.perm_ext_iff_of_nodup hn (by simp)).2 fun a => (hm a).trans (keys57.2 a).symm
  have hl := hp.length_eq
  match zs, hl with
  | [a, b], _ =>
    have ha := (hm a).1 (by simp)
    have hb := (hm b).1 (by simp)
    simp [h57, ieq] at ha hb
    simp at hn
    rcases ha with rfl | rfl <;> rcases hb with rfl | rfl <;> simp_all
theorem sorted_hc (v : Int → Int) : HC Try.prog 75 [.clo (.func 84) [] [.ptr 0 0]] [(0, .cells [.mp 1] 62), (1, .map .u32 h57 (.ints .i64 v))] [] 2 (fun _ : Unit => True)
    (fun _ => ⟨.sq 2 0 0 1 2 .own, [(0, .cells [.mp 1] 62), (1, .map .u32 h57 (.ints .i64 v)), (2, .row 0 2 2 1 (rowL .u32 [5, 7]) 29)], 3⟩) := by
  refine hc_of_run Try.func75 rfl (fun B hB hpin => ?_)
  refine goX hB 300 rfl (by simp [conj]) ?_
  refine run_callC (collect_hc h57 v [5, 7] keys57 (by decide)) named hB [0, 1] rfl rfl rfl rfl (by simp [conj]) (by simp [conj, less_rfl]) ?_
  rintro zs ⟨hN, hM⟩
  have hz := two_of hN hM
  have hl : zs.length = 2 := by rcases hz with rfl | rfl <;> rfl
  rw [hl]
  refine ⟨show 2 ≤ 3 by omega, _, _, _, rfl, rfl, rfl, ?_⟩
  refine goX hB 300 rfl (by simp [conj]) ?_
  refine run_callC (sort_hc zs hz) named hB [2] rfl rfl rfl rfl (by simp [conj]) (by simp [conj, less_rfl, ren_rowL, renR_rowL]) ?_
  rintro ⟨⟩ _
  refine ⟨show 1 ≤ 1 by omega, _, _, _, rfl, rfl, rfl, ?_⟩
  refine goX hB 300 rfl (by simp [conj]) ?_
  exact run_retC hpin () trivial [0, 1, 2] rfl rfl (by simp [conj]) rfl (by simp [conj, less_rfl, ren_rowL, renR_rowL])
end Sx
