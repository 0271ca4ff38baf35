/- Contracts for the examples. Conditions: as each theorem says. -/
import Derived.Test.YtmnlmghchegjaaaRa
set_option linter.unusedSimpArgs false
set_option linter.unusedVariables false
namespace Sx
open Go Go.Proofs
set_option maxRecDepth 100000
abbrev hA : Int → Bool := fun a => ieq a 1 || false
abbrev vA : Int → Int := fun a => bif ieq a 1 then 10 else 0
abbrev hB : Int → Bool := fun a => ieq a 2 || (ieq a 1 || false)
abbrev vB : Int → Int := fun a => bif ieq a 2 then 20 else bif ieq a 1 then 10 else 0
/-- The keys of h, in order. -/
def KeysOf (h : Int → Bool) (l : List Int) : Prop := l.Pairwise (· < ·) ∧ ∀ a, a ∈ l ↔ h a = true
theorem len_le {h S : Int → Bool} {l zs : List Int} (hk : KeysOf h l) (hn : zs.Nodup) (hm : ∀ a, a ∈ zs ↔ S a = true) (hs : ∀ a, S a = true → h a = true) : zs.length ≤ l.length :=
  List.Nodup.length_le_of_subset hn fun a ha => (hk.2 a).2 (hs a ((hm a).1 ha))
theorem seen_sub {S H : Int → Bool} {a : Int} (h : ∀ y, S y = true → H y = true) (ha : H a = true) (y : Int) (hy : (ieq y a || S y) = true) : H y = true := by
  rw [Bool.or_eq_true] at hy
  rcases hy with hy | hy
  · have : y = a := by simpa [ieq] using hy
    rw [this]; exact ha
  · exact h y hy
theorem app_rowL (l : List Int) (a : Int) (i : Nat) (hi : i < l.length + 1) :
    rowL .u64 (l ++ [a]) i 0 = appF (rowL .u64 l) l.length (fun i j => [SV.int .u64 a][i + j]?.getD .und) i 0 := by
  unfold appF
  by_cases h : i < l.length
  · have hb : Nat.blt i l.length = true := by simpa [Nat.blt_eq] using h
    rw [hb, cond_true]
    simp [rowL, h, List.getElem?_append_left h]
  · have : i = l.length := by omega
    subst this
    have hb : Nat.blt l.length l.length = false := by
      cases hq : Nat.blt l.length l.length with
      | false => rfl
      | true => rw [Nat.blt_eq] at hq; omega
    rw [hb, cond_false]
    simp [rowL]
theorem ren_rowL (nx : Nat) (sg : List Nat) (k : IntKind) (l : List Int) (i j : Nat) : ren nx sg (rowL k l i j) = rowL k l i j := by
  unfold rowL; split <;> simp only [ren, renF, id]
theorem renR_rowL (nx : Nat) (sg : List Nat) (k : IntKind) (l : List Int) : renR nx sg (rowL k l) = rowL k l := by funext i j; exact ren_rowL nx sg k l i j
theorem collect_hc (h : Int → Bool) (v : Int → Int) (l : List Int) (hk : KeysOf h l) (hl : l.length < 1000000) :
    HC Try.prog 87 [.nilsl, .clo (.func 86) [] [.ptr 0 0]] [(0, .cells [.mp 1] 44), (1, .map .u64 h (.ints .u64 v))] [] 2 (fun z : List Int => z.Nodup ∧ ∀ a, a ∈ z ↔ h a = true)
      (fun z => ⟨.sq 2 0 0 1 z.length .own, [(0, .cells [.mp 1] 44), (1, .map .u64 h (.ints .u64 v)), (2, .row 0 z.length z.length 1 (rowL .u64 z) 23)], 3⟩) := by
  refine hc_of_run Try.func87 rfl (fun B hB hpin => ?_)
  refine goK hB rfl rfl (by simp [conj]) ?_
  refine run_range named hB rfl rfl (by simp [conj]) rfl rfl rfl rfl ?_
  intro D l'
  have hB1 : (B.pin2 3 D l').ok := Base.pin2_ok hB
  have hpin1 : PinTo (B.pin2 3 D l') 5 := hpin.pin2 (by omega)
  refine goK hB1 rfl rfl (by simp [conj]) ?_
  refine run_mrange hB1 rfl rfl rfl conj_nil rfl rfl (fun es clock hK => ⟨_, _, rfl, rfl, ?_⟩)
  refine goK hB1 rfl rfl conj_nil ?_
  refine run_loop ?_
  refine run_invK (ι := Array Nat × (Int → Bool) × List Int) hpin1 (fun z => SeenIs .u64 es z.1 z.2.1 ∧ (∀ a, z.2.1 a = true → h a = true) ∧ z.2.2.Nodup ∧ ∀ a, a ∈ z.2.2 ↔ z.2.1 a = true) (fun z => (leftOf es z.1).size) (fun _ => [(0, .clo (.yield l') [] []), (5, .ptr 5 0)]) (fun _ => [[(2, .ptr 2 0)]]) [3, 4]
    (fun z => [(0, .cells [.mp 1] 44), (1, .mape .u64 h (.ints .u64 v) es clock), (2, .cells [.sq 6 0 0 1 z.2.2.length .own] 47), (5, .mit 1 clock z.1 clock), (6, .row 0 z.2.2.length z.2.2.length 1 (rowL .u64 z.2.2) 23)]) 7 (#[], (fun _ => false), []) ⟨seenIs_zero _ _, fun a ha => by (cases ha), List.nodup_nil, fun a => by simp⟩
    [0, 1, 2, 3, 4, 5, 6] rfl rfl (by simp [conj, less_rfl, ren_rowL]) ?_
  rintro ⟨seen, S, zs⟩ ⟨hS, hSi, hN, hM⟩ ih
  refine goK hB1 rfl rfl conj_nil ?_
  refine run_mnext hK hS rfl rfl rfl conj_nil rfl rfl (fun hov => ⟨_, rfl, ?_⟩) (fun a seen' ha hSa hS' hL hlt => ⟨_, _, rfl, rfl, ?_⟩)
  · clear ih
    have hSh : S = h := by
      funext a
      exact Bool.eq_iff_iff.2 ⟨hSi a, hov a⟩
    refine goK hB1 rfl rfl (by simp [conj]) ?_
    refine run_inR [] (.inl rfl) trivial rfl rfl (by simp [conj]) ?_
    refine run_endR 4 rfl rfl (by decide) rfl ?_
    refine goK hB1 rfl rfl (by simp [conj]) ?_
    refine run_retMC ((More.refl B).pin2 hpin (by omega)) hpin zs ⟨hN, by rw [← hSh]; exact hM⟩ [3] [0, 1, 6] (.inr ⟨_, rfl⟩) ⟨rfl, rfl, trivial⟩ rfl rfl rfl (by simp [conj]) rfl ?_
    simp [conj, less_rfl, ren_rowL]
  · refine goK hB1 rfl rfl (by simp [conj]) ?_
    refine run_mentry hK hL rfl rfl rfl conj_nil rfl rfl rfl ?_
    refine goK hB1 rfl rfl (by simp [conj]) ?_
    refine run_yield 4 rfl rfl (by simp [conj]) rfl rfl rfl ?_
    refine goK hB1 rfl rfl (by simp [conj]) ?_
    refine run_begin 4 rfl rfl rfl rfl ?_
    have hnM : zs.length ≤ l.length := len_le hk hN hM hSi
    refine goK hB1 rfl rfl (by simp [conj]; omega) ?_
    refine run_round 4 .off rfl rfl rfl rfl ?_
    refine goK hB1 rfl rfl (by simp [conj]) ?_
    refine run_back ?_
    have ha' : a ∉ zs := fun hq => by rw [hM a, hSa] at hq; cases hq
    have hfin := ih (seen', (fun y => ieq y a || S y), zs ++ [a]) ⟨hS', fun y hy => seen_sub hSi ha y hy, by
      simp only
      rw [List.nodup_append]
      refine ⟨hN, by simp, fun x hx y hy => ?_⟩
      have : y = a := by simpa using hy
      subst this
      exact fun q => ha' (q ▸ hx), fun y => by
      simp only [List.mem_append, List.mem_singleton, Bool.or_eq_true, hM y]
      unfold ieq
      rw [decide_eq_true_iff]
      exact ⟨fun q => q.symm, fun q => q.symm⟩⟩ hlt
    clear ih
    refine run_to hpin1 [0, 1, 2, 3, 4, 5, 8] rfl rfl ?_ hfin
    clear hfin
    simp [conj, less_rfl, ren_rowL]
    exact ⟨rfl, fun i hi => Less.of (app_rowL zs a i hi)⟩
theorem sort2_hc (zs : List Int) (hz : zs = [1, 2] ∨ zs = [2, 1]) : HC Try.prog 85 [.sq 0 0 0 1 2 .no] [(0, .row 0 2 2 1 (rowL .u64 zs) 23)] [] 1 (fun _ : Unit => True) (fun _ => ⟨.tup [], [(0, .row 0 2 2 1 (rowL .u64 [1, 2]) 23)], 1⟩) := by
  refine hc_of_run Try.func85 rfl (fun B hB hpin => ?_)
  rcases hz with rfl | rfl
  · refine goX hB 2000 rfl (by simp [conj, Fits_i64] <;> decide +kernel) ?_
    refine run_endC hpin () trivial [0] rfl rfl (by simp [conj]) rfl ?_
    simp [conj, less_rfl, ren_rowL]
  · refine goX hB 2000 rfl (by simp [conj, Fits_i64] <;> decide +kernel) ?_
    refine run_endC hpin () trivial [0] rfl rfl (by simp [conj]) rfl ?_
    simp [conj, less_rfl, ren_rowL]
    intro i hi
    match i, hi with
    | 0, _ => exact Less.rfl
    | 1, _ => exact Less.rfl
theorem sort1_hc (a : Int) : HC Try.prog 85 [.sq 0 0 0 1 1 .no] [(0, .row 0 1 1 1 (rowL .u64 [a]) 23)] [] 1 (fun _ : Unit => True) (fun _ => ⟨.tup [], [(0, .row 0 1 1 1 (rowL .u64 [a]) 23)], 1⟩) := by
  refine hc_of_run Try.func85 rfl (fun B hB hpin => ?_)
  refine goX hB 2000 rfl (by simp [conj, Fits_i64] <;> decide +kernel) ?_
  refine run_endC hpin () trivial [0] rfl rfl (by simp [conj]) rfl ?_
  simp [conj, less_rfl, ren_rowL]
theorem sort0_hc : HC Try.prog 85 [.sq 0 0 0 1 0 .no] [] [] 0 (fun _ : Unit => True) (fun _ => ⟨.tup [], [], 0⟩) := by
  refine hc_of_run Try.func85 rfl (fun B hB hpin => ?_)
  refine goX hB 2000 rfl (by simp [conj, Fits_i64] <;> decide +kernel) ?_
  exact run_endC hpin () trivial [] rfl rfl (by simp [conj]) rfl (by simp [conj])
theorem perm_of {h : Int → Bool} {l zs : List Int} (hk : KeysOf h l) (hn : zs.Nodup) (hm : ∀ a, a ∈ zs ↔ h a = true) : zs.Perm l :=
  (List.perm_ext_iff_of_nodup hn (hk.1.imp fun {a b} h => by omega)).2 fun a => (hm a).trans (hk.2 a).symm
theorem sorted2_hc (h : Int → Bool) (v : Int → Int) (hk : KeysOf h [1, 2]) : HC Try.prog 81 [.clo (.func 86) [] [.ptr 0 0]] [(0, .cells [.mp 1] 44), (1, .map .u64 h (.ints .u64 v))] [] 2 (fun _ : Unit => True)
    (fun _ => ⟨.sq 2 0 0 1 2 .own, [(0, .cells [.mp 1] 44), (1, .map .u64 h (.ints .u64 v)), (2, .row 0 2 2 1 (rowL .u64 [1, 2]) 23)], 3⟩) := by
  refine hc_of_run Try.func81 rfl (fun B hB hpin => ?_)
  refine goX hB 300 rfl (by simp [conj]) ?_
  refine run_callC (collect_hc h v [1, 2] hk (by decide)) named hB [0, 1] rfl rfl rfl rfl (by simp [conj]) (by simp [conj, less_rfl]) ?_
  rintro zs ⟨hN, hM⟩
  have hp := perm_of hk hN hM
  have hz : zs = [1, 2] ∨ zs = [2, 1] := by
    have hl := hp.length_eq
    match zs, hl with
    | [a, b], _ =>
      have ha := hp.mem_iff.1 (show a ∈ [a, b] by simp)
      have hb := hp.mem_iff.1 (show b ∈ [a, b] by simp)
      simp at ha hb hN
      rcases ha with rfl | rfl <;> rcases hb with rfl | rfl <;> simp_all
  have hl : zs.length = 2 := hp.length_eq
  rw [hl]
  refine ⟨show 2 ≤ 3 by omega, _, _, _, rfl, rfl, rfl, ?_⟩
  refine goX hB 300 rfl (by simp [conj]) ?_
  refine run_callC (sort2_hc zs hz) named hB [2] rfl rfl rfl rfl (by simp [conj]) (by simp [conj, less_rfl, ren_rowL, renR_rowL]) ?_
  rintro ⟨⟩ _
  refine ⟨show 1 ≤ 1 by omega, _, _, _, rfl, rfl, rfl, ?_⟩
  refine goX hB 300 rfl (by simp [conj]) ?_
  exact run_retC hpin () trivial [0, 1, 2] rfl rfl (by simp [conj]) rfl (by simp [conj, less_rfl, ren_rowL, renR_rowL])
theorem sorted1_hc (h : Int → Bool) (v : Int → Int) (a : Int) (hk : KeysOf h [a]) : HC Try.prog 81 [.clo (.func 86) [] [.ptr 0 0]] [(0, .cells [.mp 1] 44), (1, .map .u64 h (.ints .u64 v))] [] 2 (fun _ : Unit => True)
    (fun _ => ⟨.sq 2 0 0 1 1 .own, [(0, .cells [.mp 1] 44), (1, .map .u64 h (.ints .u64 v)), (2, .row 0 1 1 1 (rowL .u64 [a]) 23)], 3⟩) := by
  refine hc_of_run Try.func81 rfl (fun B hB hpin => ?_)
  refine goX hB 300 rfl (by simp [conj]) ?_
  refine run_callC (collect_hc h v [a] hk (by simp)) named hB [0, 1] rfl rfl rfl rfl (by simp [conj]) (by simp [conj, less_rfl]) ?_
  rintro zs ⟨hN, hM⟩
  obtain rfl : zs = [a] := List.perm_singleton.1 (perm_of hk hN hM)
  refine ⟨show 2 ≤ 3 by omega, _, _, _, rfl, rfl, rfl, ?_⟩
  refine goX hB 300 rfl (by simp [conj]) ?_
  refine run_callC (sort1_hc a) named hB [2] rfl rfl rfl rfl (by simp [conj]) (by simp [conj, less_rfl, ren_rowL, renR_rowL]) ?_
  rintro ⟨⟩ _
  refine ⟨show 1 ≤ 1 by omega, _, _, _, rfl, rfl, rfl, ?_⟩
  refine goX hB 300 rfl (by simp [conj]) ?_
  exact run_retC hpin () trivial [0, 1, 2] rfl rfl (by simp [conj]) rfl (by simp [conj, less_rfl, ren_rowL, renR_rowL])
theorem sorted0_hc (h : Int → Bool) (v : Int → Int) (hk : KeysOf h []) : HC Try.prog 81 [.clo (.func 86) [] [.ptr 0 0]] [(0, .cells [.mp 1] 44), (1, .map .u64 h (.ints .u64 v))] [] 2 (fun _ : Unit => True)
    (fun _ => ⟨.sq 0 0 0 1 0 .own, [(0, .cells [.mp 1] 44), (1, .map .u64 h (.ints .u64 v))], 2⟩) := by
  refine hc_of_run Try.func81 rfl (fun B hB hpin => ?_)
  refine goX hB 300 rfl (by simp [conj]) ?_
  refine run_callC (collect_hc h v [] hk (by simp)) named hB [0, 1] rfl rfl rfl rfl (by simp [conj]) (by simp [conj, less_rfl]) ?_
  rintro zs ⟨hN, hM⟩
  obtain rfl : zs = [] := List.perm_nil.1 (perm_of hk hN hM)
  refine ⟨show 2 ≤ 3 by omega, _, _, _, rfl, rfl, rfl, ?_⟩
  refine goX hB 300 rfl (by simp [conj]) ?_
  refine run_callC sort0_hc named hB [] rfl rfl rfl rfl (by simp [conj]) (by simp [conj, less_rfl, ren_rowL, renR_rowL]) ?_
  rintro ⟨⟩ _
  refine ⟨show 0 ≤ 0 by omega, _, _, _, rfl, rfl, rfl, ?_⟩
  refine goX hB 300 rfl (by simp [conj]) ?_
  exact run_retC hpin () trivial [0, 1] rfl rfl (by simp [conj]) rfl (by simp [conj, less_rfl, ren_rowL, renR_rowL])
theorem shared_hc (k : Int) : HC Try.prog 72 [.ptr 0 0] [] [(0, .cells [.und, .und, i64 k, .und, .und, .und] 46)] 1 (fun _ : Unit => True) (fun _ => ⟨.sb (decide (5 ≤ k)), [], 1⟩) := by
  refine hc_of_run Try.func72 rfl (fun B hB hpin => ?_)
  refine goK hB rfl rfl (by simp [conj, isPt25]) ?_
  exact run_retC hpin () trivial [0] rfl rfl (by simp [conj]) rfl (by simp [conj, less_rfl])
def rcSh (k : Int) (a : Nat) : RC := ⟨72, [.ptr 0 0], [], [(0, .cells [.und, .und, i64 k, .und, .und, .und] 46)], 1, .sb (decide (5 ≤ k)), [], 1, [a]⟩
theorem rcSh_ok (k : Int) (a : Nat) : RcOk Try.prog (rcSh k a) := ⟨shared_hc k, rfl, Nat.le_refl _⟩
theorem keysB : KeysOf hB [1, 2] := by
  refine ⟨by simp, fun a => ?_⟩
  simp [hB, ieq]
  omega
theorem others2_hc (h : Int → Bool) (v : Int → Int) (hk : KeysOf h [2]) : HC Try.prog 53 [.ptr 0 0, u64 2] [(1, .map .u64 h (.ints .u64 v))] [(0, .cells [.und, .mp 1, .und, .und, .und, .und] 46)] 2 (fun _ : Unit => True)
    (fun _ => ⟨.nilsl, [(1, .map .u64 h (.ints .u64 v))], 2⟩) := by
  refine hc_of_run Try.func53 rfl (fun B hB hpin => ?_)
  refine goX hB 300 rfl (by simp [conj, isPt25]) ?_
  refine run_callC (sorted1_hc h v 2 hk) named hB [3, 1] rfl rfl rfl rfl (by simp [conj]) (by simp [conj, less_rfl]) ?_
  rintro ⟨⟩ _
  refine ⟨show 2 ≤ 3 by omega, _, _, _, rfl, rfl, rfl, ?_⟩
  refine goX hB 900 rfl (by simp [conj, Fits_i64] <;> decide +kernel) ?_
  refine run_retC hpin () trivial [0, 1] rfl rfl (by simp [conj]) rfl (by simp [conj, less_rfl, ren_rowL, renR_rowL])
def rcO2 (h : Int → Bool) (v : Int → Int) (a b : Nat) : RC := ⟨53, [.ptr 0 0, u64 2], [(1, .map .u64 h (.ints .u64 v))], [(0, .cells [.und, .mp 1, .und, .und, .und, .und] 46)], 2, .nilsl, [(1, .map .u64 h (.ints .u64 v))], 2, [a, b]⟩
theorem rcO2_ok (h : Int → Bool) (v : Int → Int) (hk : KeysOf h [2]) (a b : Nat) : RcOk Try.prog (rcO2 h v a b) := ⟨others2_hc h v hk, rfl, Nat.le_refl _⟩
abbrev hC : Int → Bool := fun a => hB a && !ieq a 1
theorem keysC : KeysOf hC [2] := by
  refine ⟨by simp, fun a => ?_⟩
  simp [hC, hB, ieq]
  omega
end Sx
