/- slices.Sorted(maps.Keys(m)): the keys in order. Conditions: as each theorem says. -/
import Derived.Test.YtcfifbpkngplmaaXr
import Derived.Test.YtcfifbpkngplmaaXsh
import Derived.Test.YtcfifbpkngplmaaEngX4
set_option linter.unusedSimpArgs false
set_option linter.unusedVariables false
namespace Sx
open Go Go.Proofs
set_option maxRecDepth 100000
def modeN : Mode := { st := true, unr := false, inl := fun f => !hasN f [77, 65], sum := sumOf [], keep := fun _ => none }
theorem goN {B : Base} (hB : B.ok) {ro : Hp} {f : FuncId} {R : Ending → World → Prop} {cs0 cs : List Prop} {c c0 c' : Cfg} (h0 : stepD Try.prog modeN ro c = some (cs0, c0)) (h : execG Try.prog modeN ro 400 cs0 c0 = (cs, c')) (hc : conj cs)
    (hr : Run Try.prog ro B f R c') : Run Try.prog ro B f R c := run_go mixed named hB (sumOk_nil _) 400 h0 h hc hr
theorem sort65_hc (l : List Int) (cap : Nat) (hl : l.length < 1000000) :
    HC Try.prog 65 [.sq 0 0 0 1 l.length .no] [(0, .row 0 l.length cap 1 (rowL .i64 l) 3)] [] 1 (fun _ : Unit => True) (fun _ => ⟨.tup [], [(0, .row 0 l.length cap 1 (rowL .i64 (l.mergeSort fun x y => decide (x ≤ y))) 3)], 1⟩) :=
  sort_hcG (P := Try.prog) (g := 65) (fun blk off cap zs w => AnyM.slices_Sort_int Try.lays65 blk off cap zs w) (fun p cap w => AnyM.slices_Sort_int_none Try.lays65 p cap w) l cap 3 (by omega)
def KeysOf (h : Int → Bool) (l : List Int) : Prop := l.Pairwise (· < ·) ∧ ∀ a, a ∈ l ↔ h a = true
theorem sorted_eq {h : Int → Bool} {l zs : List Int} (hk : KeysOf h l) (hn : zs.Nodup) (hm : ∀ a, a ∈ zs ↔ h a = true) : (zs.mergeSort fun x y => decide (x ≤ y)) = l := by
  have hnl : l.Nodup := hk.1.imp fun {a b} h => by omega
  refine List.Perm.eq_of_pairwise (le := fun a b : Int => a ≤ b) (fun a b _ _ h1 h2 => by omega) ?_ (hk.1.imp fun {a b} h => by omega) ?_
  · have := List.pairwise_mergeSort (le := fun x y : Int => decide (x ≤ y)) (by intro a b c h1 h2; simp at h1 h2 ⊢; omega) (by intro a b; simp; omega) zs
    exact this.imp fun {a b} h => by simpa using h
  · exact (List.mergeSort_perm _ _).trans ((List.perm_ext_iff_of_nodup hn hnl).2 fun a => (hm a).trans (hk.2 a).symm)
theorem len_le {h S : Int → Bool} {l zs : List Int} (hk : KeysOf h l) (hn : zs.Nodup) (hm : ∀ a, a ∈ zs ↔ S a = true) (hs : ∀ a, S a = true → h a = true) : zs.length ≤ l.length :=
  List.Nodup.length_le_of_subset hn fun a ha => (hk.2 a).2 (hs a ((hm a).1 ha))
theorem seen_sub {S H : Int → Bool} {a : Int} (h : ∀ y, S y = true → H y = true) (ha : H a = true) (y : Int) (hy : (ieq y a || S y) = true) : H y = true := by
  rw [Bool.or_eq_true] at hy
  rcases hy with hy | hy
  · have : y = a := by simpa [ieq] using hy
    rw [this]; exact ha
  · exact h y hy
theorem app_rowL (l : List Int) (a : Int) (i : Nat) (hi : i < l.length + 1) :
    rowL .i64 (l ++ [a]) i 0 = appF (rowL .i64 l) l.length (fun i j => [SV.int .i64 a][i + j]?.getD .und) i 0 := by
  unfold appF
  by_cases h : i < l.length
  · have hb : Nat.blt i l.length = true := by simpa [Nat.blt_eq] using h
    rw [hb, cond_true]
    simp [rowL, h, List.getElem?_append_left h]
  · have : i = l.length := by omega
    subst this
    have hb : Nat.blt l.length l.length = false := by
      cases hq : Nat.blt l.length l.length with
      | false => rfl
      | true => rw [Nat.blt_eq] at hq; omega
    rw [hb, cond_false]
    simp [rowL]
theorem ren_rowL (nx : Nat) (sg : List Nat) (k : IntKind) (l : List Int) (i j : Nat) : ren nx sg (rowL k l i j) = rowL k l i j := by
  unfold rowL; split <;> simp only [ren, renF, id]
theorem renR_rowL (nx : Nat) (sg : List Nat) (k : IntKind) (l : List Int) : renR nx sg (rowL k l) = rowL k l := by funext i j; exact ren_rowL nx sg k l i j
theorem collect_hc (h : Int → Bool) (sz : Int → Int) (V : Int → Value) (l : List Int) (hk : KeysOf h l) (hl : l.length < 1000000) :
    HC Try.prog 77 [.nilsl, .clo (.func 66) [] [.ptr 0 0]] [(0, .cells [.mp 1] 64), (1, .map .i64 h (.recs .i64 sz V))] [] 2 (fun z : List Int => z.Nodup ∧ ∀ a, a ∈ z ↔ h a = true)
      (fun z => ⟨.sq 2 0 0 1 z.length .own, [(0, .cells [.mp 1] 64), (1, .map .i64 h (.recs .i64 sz V)), (2, .row 0 z.length z.length 1 (rowL .i64 z) 3)], 3⟩) := by
  refine hc_of_run Try.func77 rfl (fun B hB hpin => ?_)
  refine goN hB rfl rfl (by simp [conj]) ?_
  refine run_range named hB rfl rfl (by simp [conj]) rfl rfl rfl rfl ?_
  intro D l'
  have hB1 : (B.pin2 3 D l').ok := Base.pin2_ok hB
  have hpin1 : PinTo (B.pin2 3 D l') 5 := hpin.pin2 (by omega)
  refine goN hB1 rfl rfl (by simp [conj]) ?_
  refine run_mrange hB1 rfl rfl rfl conj_nil rfl rfl (fun es clock hK => ⟨_, _, rfl, rfl, ?_⟩)
  refine goN hB1 rfl rfl conj_nil ?_
  refine run_loop ?_
  refine run_invK (ι := Array Nat × (Int → Bool) × List Int) hpin1 (fun z => SeenIs .i64 es z.1 z.2.1 ∧ (∀ a, z.2.1 a = true → h a = true) ∧ z.2.2.Nodup ∧ ∀ a, a ∈ z.2.2 ↔ z.2.1 a = true) (fun z => (leftOf es z.1).size) (fun _ => [(0, .clo (.yield l') [] []), (5, .ptr 5 0)]) (fun _ => [[(2, .ptr 2 0)]]) [3, 4]
    (fun z => [(0, .cells [.mp 1] 64), (1, .mape .i64 h (.recs .i64 sz V) es clock), (2, .cells [.sq 6 0 0 1 z.2.2.length .own] 41), (5, .mit 1 clock z.1 clock), (6, .row 0 z.2.2.length z.2.2.length 1 (rowL .i64 z.2.2) 3)]) 7 (#[], (fun _ => false), []) ⟨seenIs_zero _ _, fun a ha => by (cases ha), List.nodup_nil, fun a => by simp⟩
    [0, 1, 2, 3, 4, 5, 6] rfl rfl (by simp [conj, less_rfl, ren_rowL]) ?_
  rintro ⟨seen, S, zs⟩ ⟨hS, hSi, hN, hM⟩ ih
  refine goN hB1 rfl rfl conj_nil ?_
  refine run_mnext hK hS rfl rfl rfl conj_nil rfl rfl (fun hov => ⟨_, rfl, ?_⟩) (fun a seen' ha hSa hS' hL hlt => ⟨_, _, rfl, rfl, ?_⟩)
  · clear ih
    have hSh : S = h := by
      funext a
      exact Bool.eq_iff_iff.2 ⟨hSi a, hov a⟩
    refine goN hB1 rfl rfl (by simp [conj]) ?_
    refine run_inR [] (.inl rfl) trivial rfl rfl (by simp [conj]) ?_
    refine run_endR 4 rfl rfl (by decide) rfl ?_
    refine goN hB1 rfl rfl (by simp [conj]) ?_
    refine run_retMC ((More.refl B).pin2 hpin (by omega)) hpin zs ⟨hN, by rw [← hSh]; exact hM⟩ [3] [0, 1, 6] (.inr ⟨_, rfl⟩) ⟨rfl, rfl, trivial⟩ rfl rfl rfl (by simp [conj]) rfl ?_
    simp [conj, less_rfl, ren_rowL]
  · refine goN hB1 rfl rfl (by simp [conj]) ?_
    refine run_mentry hK hL rfl rfl rfl conj_nil rfl rfl rfl ?_
    refine goN hB1 rfl rfl (by simp [conj]) ?_
    refine run_yield 4 rfl rfl (by simp [conj]) rfl rfl rfl ?_
    refine goN hB1 rfl rfl (by simp [conj]) ?_
    refine run_begin 4 rfl rfl rfl rfl ?_
    have hnM : zs.length ≤ l.length := len_le hk hN hM hSi
    refine goN hB1 rfl rfl (by simp [conj]; omega) ?_
    refine run_round 4 .off rfl rfl rfl rfl ?_
    refine goN hB1 rfl rfl (by simp [conj]) ?_
    refine run_back ?_
    have ha' : a ∉ zs := fun hq => by rw [hM a, hSa] at hq; cases hq
    have hfin := ih (seen', (fun y => ieq y a || S y), zs ++ [a]) ⟨hS', fun y hy => seen_sub hSi ha y hy, by
      simp only
      rw [List.nodup_append]
      refine ⟨hN, by simp, fun x hx y hy => ?_⟩
      have : y = a := by simpa using hy
      subst this
      exact fun q => ha' (q ▸ hx), fun y => by
      simp only [List.mem_append, List.mem_singleton, Bool.or_eq_true, hM y]
      unfold ieq
      rw [decide_eq_true_iff]
      exact ⟨fun q => q.symm, fun q => q.symm⟩⟩ hlt
    clear ih
    refine run_to hpin1 [0, 1, 2, 3, 4, 5, 8] rfl rfl ?_ hfin
    clear hfin
    simp [conj, less_rfl, ren_rowL]
    exact ⟨rfl, fun i hi => Less.of (app_rowL zs a i hi)⟩
theorem sorted_hc (h : Int → Bool) (sz : Int → Int) (V : Int → Value) (l : List Int) (hk : KeysOf h l) (hl : l.length < 1000000) :
    HC Try.prog 48 [.clo (.func 66) [] [.ptr 0 0]] [(0, .cells [.mp 1] 64), (1, .map .i64 h (.recs .i64 sz V))] [] 2 (fun _ : Unit => True)
      (fun _ => ⟨.sq 2 0 0 1 l.length .own, [(0, .cells [.mp 1] 64), (1, .map .i64 h (.recs .i64 sz V)), (2, .row 0 l.length l.length 1 (rowL .i64 l) 3)], 3⟩) := by
  refine hc_of_run Try.func48 rfl (fun B hB hpin => ?_)
  refine goN hB rfl rfl (by simp [conj]) ?_
  refine run_callC (collect_hc h sz V l hk hl) named hB [0, 1] rfl rfl rfl rfl (by simp [conj]) (by simp [conj, less_rfl]) ?_
  rintro zs ⟨hN, hM⟩
  have he := sorted_eq hk hN hM
  have hn : zs.length = l.length := by rw [← he]; exact (List.length_mergeSort _).symm
  refine ⟨show 2 ≤ 3 by omega, _, _, _, rfl, rfl, rfl, ?_⟩
  refine goN hB rfl rfl (by simp [conj]) ?_
  refine run_callC (sort65_hc zs zs.length (by omega)) named hB [2] rfl rfl rfl rfl (by simp [conj]) (by simp [conj, less_rfl, ren_rowL, renR_rowL]) ?_
  rintro ⟨⟩ _
  refine ⟨show 1 ≤ 1 by omega, _, _, _, rfl, rfl, rfl, ?_⟩
  rw [he, hn]
  refine goN hB rfl rfl (by simp [conj]) ?_
  exact run_retC hpin () trivial [0, 1, 2] rfl rfl (by simp [conj]) rfl (by simp [conj, less_rfl, ren_rowL, renR_rowL])
end Sx
