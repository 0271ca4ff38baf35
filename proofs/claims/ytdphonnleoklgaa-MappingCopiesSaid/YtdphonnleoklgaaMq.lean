/- is: a map equals its reference. Conditions: as each theorem says. -/
import Derived.Test.YtdphonnleoklgaaMx
import Derived.Test.YtdphonnleoklgaaMw
set_option linter.unusedSimpArgs false
set_option linter.unusedVariables false
namespace Sx
open Go Go.Proofs
set_option maxRecDepth 100000
def modeI : Mode := { st := true, unr := false, inl := fun f => !hasN f [13, 18, 19, 21, 22, 23, 24, 28, 31], sum := sumOf s2, keep := fun _ => none }
theorem goI {B : Base} (hB : B.ok) {ro : Hp} {f : FuncId} {R : Ending → World → Prop} {cs0 cs : List Prop} {c c0 c' : Cfg} (h0 : stepD Try.prog modeI ro c = some (cs0, c0)) (h : execG Try.prog modeI ro 400 cs0 c0 = (cs, c')) (hc : conj cs)
    (hr : Run Try.prog ro B f R c') : Run Try.prog ro B f R c := run_go mixed named hB s2_ok 400 h0 h hc hr
theorem goIY {B : Base} (hB : B.ok) {ro : Hp} {f : FuncId} {R : Ending → World → Prop} (S : List (Nat × Nat)) (m : Nat) {cs : List Prop} {c c' : Cfg} (h : execY Try.prog modeI ro S m [] c = (cs, c')) (hc : conj cs)
    (hr : Run Try.prog ro B f R c') : Run Try.prog ro B f R c := run_goY mixed named hB s2_ok S m h hc hr
abbrev mapC (S Bk P : Int) : SO := .cells [i64 S, i64 Bk, i64 P, .mp 1, .und, .und] 61
theorem count_hc (S Bk P : Int) (L : Ld) {T : Int} (hL : MInv S T L) : HC Try.prog 14 [.ptr 0 0] [(1, .map .i64 (hasS L) (.ints .i64 (pgS L)))] [(0, mapC S Bk P)] 2 (fun _ : Unit => True) (fun _ => ⟨i64 L.length, [(1, .map .i64 (hasS L) (.ints .i64 (pgS L)))], 2⟩) := by
  refine hc_of_run Try.func14 rfl (fun B hB hpin => ?_)
  refine goI hB rfl rfl (by simp [conj, isPt25]) ?_
  refine run_condF rfl rfl ?_
  refine goI hB rfl rfl (by simp [conj, isPt25]) ?_
  refine run_mlenN (L.map (·.1)) L.length (by simp) (by rw [List.nodup_iff_pairwise_ne, List.pairwise_map]; exact hL.lt.imp fun {a c} h => by omega) (fun a => by rw [hasS_iff, List.mem_map]) rfl rfl (by simp [conj]) rfl rfl ?_
  refine goI hB rfl rfl (by simp [conj, isPt25]) ?_
  exact run_retC hpin () trivial [0, 1] rfl rfl (by simp [conj]) rfl (by simp [conj, less_rfl])
theorem sectors_hc (S : Int) : HC Try.prog 30 [.ptr 0 0] [] [(0, mapS S)] 1 (fun _ : Unit => True) (fun _ => ⟨i64 S, [], 1⟩) := by
  refine hc_of_run Try.func30 rfl (fun B hB hpin => ?_)
  refine goI hB rfl rfl (by simp [conj, isPt25]) ?_
  refine run_condF rfl rfl ?_
  refine goI hB rfl rfl (by simp [conj, isPt25]) ?_
  exact run_retC hpin () trivial [0] rfl rfl (by simp [conj]) rfl (by simp [conj, less_rfl])
def rcCnt (S Bk P : Int) (L : Ld) : RC := ⟨14, [.ptr 0 0], [(1, .map .i64 (hasS L) (.ints .i64 (pgS L)))], [(0, mapC S Bk P)], 2, i64 L.length, [(1, .map .i64 (hasS L) (.ints .i64 (pgS L)))], 2, [0, 1]⟩
def rcSec (S : Int) : RC := ⟨30, [.ptr 0 0], [], [(0, mapS S)], 1, i64 S, [], 1, [0]⟩
def rcEnt (S Bk P : Int) (L : Ld) : RC := ⟨24, [.ptr 0 0], mpH S Bk P L, [], 4, .sq 4 0 0 2 L.length .own, mpH S Bk P L ++ [(4, .row 0 L.length L.length 2 (ldr L) 54)], 5, [0, 1, 2, 3]⟩
def rcSame (X Y : Ld) (c1 c2 a b : Nat) : RC := ⟨22, [.sq 0 0 0 2 X.length .no, .sq 1 0 0 2 Y.length .no], [], [(0, .row 0 X.length c1 2 (ldr X) anyTy), (1, .row 0 Y.length c2 2 (ldr Y) anyTy)], 2, .sb (decide (X = Y)), [], 2, [a, b]⟩
def rcRd (sec : Bool) (A C : List Int) (Z : Ld) (most : Int) (sg : List Nat) : RC := ⟨23, [.clo (.func 38) [] [.ptr 0 0, .ptr 1 0], .sb sec, i64 most], prN A C 0 1 2 3, [], 4, .sq 4 0 0 2 (rdN Z.length most) .own, prN A C 0 1 2 3 ++ [(4, .row 0 (rdN Z.length most) (rdN Z.length most) 2 (ldr Z) 54)], 5, sg⟩
def rcSame0 (S : Int) : RC := ⟨22, [.sq 0 0 0 2 0 .no, .sq 0 0 0 2 0 .no], [], [(0, mapS S)], 1, .tt, [], 1, [0]⟩
def rcRd0 (sec : Bool) (most : Int) (sg : List Nat) : RC := ⟨23, [.clo (.func 38) [] [.ptr 0 0, .ptr 1 0], .sb sec, i64 most], prE, [], 2, .sq 0 0 0 2 0 .own, prE, 2, sg⟩
set_option maxHeartbeats 8000000 in
theorem is_hc (S Bk P : Int) (hN : okN S Bk P = true) (hS : S ≤ 1000) (L : Ld) (hL : MInv S (Bk * P) L) (cap : Nat) : HC Try.prog 17 [.ptr 0 0, refM S Bk P 4 L.length .no] (mpH S Bk P L) [(4, .row 0 L.length cap 2 (ldr L) anyTy)] 5 (fun _ : Unit => True) (fun _ => ⟨.tt, mpH S Bk P L, 5⟩) := by
  have hN' := okN_iff.1 hN
  have hlen := len_le' hL (by omega)
  have hm2 : Bk * P ≤ 4096 * 512 := Int.mul_le_mul (by omega) (by omega) (by omega) (by omega)
  have hm1 : 0 ≤ Bk * P := Int.mul_nonneg (by omega) (by omega)
  have hrd : rdN L.length 1073741824 = L.length := by unfold rdN; rw [if_neg (by decide)]; omega
  refine hc_of_run Try.func17 rfl (fun B hB hpin => ?_)
  refine goI hB rfl rfl (by simp [conj]) ?_
  refine run_callC (all_hc S Bk P L hL (by omega)) named hB [0, 1, 2, 3] rfl rfl rfl rfl (by simp [conj]) (by simp [conj, less_rfl, ren_cntF]) ?_
  rintro ⟨⟩ _
  refine ⟨show 4 ≤ 8 by omega, _, _, _, rfl, rfl, rfl, ?_⟩
  refine goI hB rfl rfl (by simp [conj]) ?_
  refine run_draw0 mixed (fun t => ?_)
  by_cases hE : L = []
  · have hl0 : L.length = 0 := by rw [hE]; rfl
    refine run_drawC (M := modeI) 1 33 rfl named hB s2_ok [(14, rcCnt S Bk P L), (22, rcSec S), (29, rcEnt S Bk P L), (32, rcSame0 S), (37, rcRd0 true 1073741824 [6, 7]), (40, rcSame0 S)]
      ⟨⟨count_hc S Bk P L hL, rfl, Nat.le_refl _⟩, ⟨sectors_hc S, rfl, Nat.le_refl _⟩, ⟨entries_hc S Bk P L hL (by omega), rfl, by show 4 ≤ 5; omega⟩, ⟨same0_hc S, rfl, Nat.le_refl _⟩, ⟨read0_hc true 1073741824, rfl, Nat.le_refl _⟩, ⟨same0_hc S, rfl, Nat.le_refl _⟩, trivial⟩ rfl rfl rfl rfl rfl rfl ?_ (fun t => ?_)
    · simp [conj, less_rfl, SO.Live, ren_cntF, renR_cntF, ren_ldr, renR_ldr, ren_rowL, renR_rowL, hl0]
      exact ⟨.inl (by omega), isFn45⟩
    refine run_drawE rfl ?_
    refine goI hB rfl rfl (by simp [conj]) ?_
    refine run_cond rfl (fun h => by simp [hl0] at h) (fun h => ?_)
    clear h
    refine goI hB rfl rfl (by simp [conj]) ?_
    refine run_loop ?_
    refine run_inv (ι := Int) hpin (fun s => -1 ≤ s ∧ s ≤ S + 1) (fun s => (S + 1 - s).toNat) (fun s => [(0, .ptr 0 0), (3, .ptr 5 0), (6, i64 s), (4, .ff)]) (fun _ => [])
      (fun _ => mpH S Bk P L ++ [(5, .cells [i64 S, i64 Bk, i64 P, .sq 4 0 0 2 L.length .no] 38)]) 6 (-1) ⟨by omega, by omega⟩ [0, 1, 2, 3, 4, 5] rfl rfl (by simp [conj, less_rfl, ren_cntF, renR_cntF, ren_ldr]) ?_
    rintro s ⟨s1, s2'⟩ ih
    refine goI hB rfl rfl (by simp [conj]) ?_
    refine run_cond rfl (fun h => ?_) (fun h => ?_)
    · have hs : s ≤ S := by simpa using h
      clear h
      refine goI hB rfl rfl (by simp [conj, isMp58, isPt25]) ?_
      refine run_condF rfl rfl ?_
      refine goI hB rfl rfl (by simp [conj, isMp58, isPt25]) ?_
      refine run_callC (atR_hc S Bk P L cap (by omega) s) named hB [4] rfl rfl rfl rfl (by simp [conj]) (by simp [conj, less_rfl, ren_ldr]) ?_
      rintro ⟨⟩ _
      refine ⟨show 1 ≤ 1 by omega, _, _, _, rfl, rfl, rfl, ?_⟩
      refine goI hB rfl rfl (by simp [conj, isBo4]) ?_
      refine run_cond rfl (fun h => ?_) (fun h => ?_)
      · exfalso
        cases hasS L s <;> simp at h
      clear h
      have ih := ih (s + 1) ⟨by omega, by omega⟩ (by omega)
      refine goI hB rfl rfl (by simp [conj, Fits_i64]; omega) ?_
      refine run_back ?_
      refine run_to hpin [0, 1, 2, 3, 4, 5] rfl rfl ?_ ih
      clear ih
      simp [conj, less_rfl, ren_cntF, renR_cntF, ren_ldr]
    clear ih h
    refine goI hB rfl rfl (by simp [conj]) ?_
    refine run_loop ?_
    refine run_inv (ι := Int) hpin (fun b => -1 ≤ b ∧ b ≤ Bk + 1) (fun b => (Bk + 1 - b).toNat) (fun b => [(0, .ptr 0 0), (3, .ptr 5 0), (11, i64 b), (4, .ff)]) (fun _ => [])
      (fun _ => mpH S Bk P L ++ [(5, .cells [i64 S, i64 Bk, i64 P, .sq 4 0 0 2 L.length .no] 38)]) 6 (-1) ⟨by omega, by omega⟩ [0, 1, 2, 3, 4, 5] rfl rfl (by simp [conj, less_rfl, ren_cntF, renR_cntF, ren_ldr]) ?_
    rintro b ⟨b1, b2⟩ ih
    refine goI hB rfl rfl (by simp [conj]) ?_
    refine run_cond rfl (fun h => ?_) (fun h => ?_)
    · have hb : b ≤ Bk := by simpa using h
      clear h
      have ih := ih (b + 1) ⟨by omega, by omega⟩ (by omega)
      refine goI hB rfl rfl (by simp [conj, isMp58, isPt25]) ?_
      refine run_callC (ofR_hc S Bk P hN L cap (by omega) b) named hB [4] rfl rfl rfl rfl (by simp [conj]) (by simp [conj, less_rfl, ren_ldr]) ?_
      rintro ⟨⟩ _
      refine ⟨show 1 ≤ 2 by omega, _, _, _, rfl, rfl, rfl, ?_⟩
      refine goI hB rfl rfl (by simp [conj, isMp58, isPt25]) ?_
      refine run_callC (pages_hc S Bk P hN L hL b) named hB [0, 1, 2, 3] rfl rfl rfl rfl (by simp [conj]) (by simp [conj, less_rfl, ren_cntF]) ?_
      rintro ⟨⟩ _
      refine ⟨show 4 ≤ 8 by omega, _, _, _, rfl, rfl, rfl, ?_⟩
      refine goIY hB [(17, 94)] 300 rfl (by simp [conj, isFn45]) ?_
      refine goIY hB [] 300 rfl (by simp [conj]) ?_
      refine run_callC (valid_hc S Bk P hN L hL b) named hB [0, 1, 2, 3] rfl rfl rfl rfl (by simp [conj]) (by simp [conj, less_rfl, ren_cntF, renR_cntF]) ?_
      rintro ⟨⟩ _
      refine ⟨show 4 ≤ 4 by omega, _, _, _, rfl, rfl, rfl, ?_⟩
      refine goIY hB [(17, 100)] 300 rfl (by simp [conj]) ?_
      refine run_ff (by simp) ?_
      refine goIY hB [] 300 rfl (by simp [conj]) ?_
      have hol : (ofL L Bk P b).length ≤ 512 := by
        unfold ofL
        split
        · exact Nat.le_trans (ofTo_len _ _ _ _) (by omega)
        · exact Nat.zero_le _
      have hr2 : rdN (ofL L Bk P b).length 1073741824 = (ofL L Bk P b).length := by unfold rdN; rw [if_neg (by decide)]; omega
      refine run_callC (read_hc false _ _ (ofL L Bk P b) (rdOk_f _) (by omega) 1073741824) named hB [7, 8, 9, 10] rfl rfl rfl rfl (by simp [conj]) (by simp [conj, less_rfl, ren_rowL, renR_rowL]) ?_
      rintro ⟨⟩ _
      refine ⟨show 4 ≤ 5 by omega, _, _, _, rfl, rfl, rfl, ?_⟩
      refine goIY hB [] 300 rfl (by simp [conj]) ?_
      refine run_callC (same_hc (ofL L Bk P b) (ofL L Bk P b) 0 0 (ofL L Bk P b).length (ofL L Bk P b).length (by omega)) named hB [11, 6] rfl rfl rfl rfl (by simp [conj]) (by simp [conj, less_rfl, ren_ldr, renR_ldr, hr2]) ?_
      rintro ⟨⟩ _
      refine ⟨show 2 ≤ 2 by omega, _, _, _, rfl, rfl, rfl, ?_⟩
      refine goI hB rfl rfl (by simp [conj]) ?_
      refine run_cond rfl (fun h => by simp at h) (fun h => ?_)
      clear h
      refine goI hB rfl rfl (by simp [conj, Fits_i64]; omega) ?_
      refine run_back ?_
      refine run_to hpin [0, 1, 2, 3, 4, 5] rfl rfl ?_ ih
      clear ih
      simp [conj, less_rfl, ren_cntF, renR_cntF, ren_ldr]
    clear ih h
    refine goI hB rfl rfl (by simp [conj]) ?_
    refine run_loop ?_
    refine run_inv (ι := Int) hpin (fun p => -1 ≤ p ∧ p ≤ Bk * P + 1) (fun p => (Bk * P + 1 - p).toNat) (fun p => [(0, .ptr 0 0), (3, .ptr 5 0), (14, i64 p), (4, .ff)]) (fun _ => [])
      (fun _ => mpH S Bk P L ++ [(5, .cells [i64 S, i64 Bk, i64 P, .sq 4 0 0 2 L.length .no] 38)]) 6 (-1) ⟨by omega, by omega⟩ [0, 1, 2, 3, 4, 5] rfl rfl (by simp [conj, less_rfl, ren_cntF, renR_cntF, ren_ldr]) ?_
    rintro p ⟨p1, p2⟩ ih
    refine goI hB rfl rfl (by simp [conj, Fits_i64]; omega) ?_
    refine run_cond rfl (fun h => ?_) (fun h => ?_)
    · have hp : p ≤ Bk * P := by simpa using h
      clear h
      have ih := ih (p + 1) ⟨by omega, by omega⟩ (by omega)
      refine goI hB rfl rfl (by simp [conj, isMp58, isPt25]) ?_
      refine run_condF rfl rfl ?_
      refine goI hB rfl rfl (by simp [conj, isMp58, isPt25]) ?_
      refine run_callC (secR_hc S Bk P L cap (by omega) p) named hB [4] rfl rfl rfl rfl (by simp [conj]) (by simp [conj, less_rfl, ren_ldr]) ?_
      rintro ⟨⟩ _
      refine ⟨show 1 ≤ 1 by omega, _, _, _, rfl, rfl, rfl, ?_⟩
      refine goI hB rfl rfl (by simp [conj, isBo4]) ?_
      refine run_cond rfl (fun h => ?_) (fun h => ?_)
      · exfalso
        cases hasP L p <;> simp at h
      clear h
      refine goI hB rfl rfl (by simp [conj, Fits_i64]; omega) ?_
      refine run_back ?_
      refine run_to hpin [0, 1, 2, 3, 4, 5] rfl rfl ?_ ih
      clear ih
      simp [conj, less_rfl, ren_cntF, renR_cntF, ren_ldr]
    clear ih h
    refine goI hB rfl rfl (by simp [conj]) ?_
    exact run_retC hpin () trivial [0, 1, 2, 3, 4] rfl rfl (by simp [conj]) rfl (by simp [conj, less_rfl, ren_cntF, renR_cntF, ren_ldr])
  · have hl1 : 0 < L.length := List.length_pos_iff.2 hE
    refine run_drawC (M := modeI) 1 33 rfl named hB s2_ok [(14, rcCnt S Bk P L), (22, rcSec S), (29, rcEnt S Bk P L), (32, rcSame L L L.length cap 29 4), (37, rcRd true (L.map (fun x : Int × Int => x.1)) (L.map (fun x : Int × Int => x.2)) L 1073741824 [6, 7, 8, 9]), (40, rcSame L L L.length cap 37 4)]
      ⟨⟨count_hc S Bk P L hL, rfl, Nat.le_refl _⟩, ⟨sectors_hc S, rfl, Nat.le_refl _⟩, ⟨entries_hc S Bk P L hL (by omega), rfl, by show 4 ≤ 5; omega⟩, ⟨same_hc L L 0 0 _ _ (by omega), rfl, Nat.le_refl _⟩, ⟨read_hc true (L.map (fun x : Int × Int => x.1)) (L.map (fun x : Int × Int => x.2)) L (rdOk_t L) (by omega) 1073741824, rfl, by show 4 ≤ 5; omega⟩, ⟨same_hc L L 0 0 _ _ (by omega), rfl, Nat.le_refl _⟩, trivial⟩ rfl rfl rfl rfl rfl rfl ?_ (fun t => ?_)
    · simp [conj, less_rfl, SO.Live, ren_cntF, renR_cntF, ren_ldr, renR_ldr, ren_rowL, renR_rowL, hrd, hl1]
      exact ⟨.inl (by omega), isFn45⟩
    refine run_drawE rfl ?_
    refine goI hB rfl rfl (by simp [conj]) ?_
    refine run_cond rfl (fun h => by simp at h) (fun h => ?_)
    clear h
    refine goI hB rfl rfl (by simp [conj]) ?_
    refine run_loop ?_
    refine run_inv (ι := Int) hpin (fun s => -1 ≤ s ∧ s ≤ S + 1) (fun s => (S + 1 - s).toNat) (fun s => [(0, .ptr 0 0), (3, .ptr 5 0), (6, i64 s), (4, .ff)]) (fun _ => [])
      (fun _ => mpH S Bk P L ++ [(5, .cells [i64 S, i64 Bk, i64 P, .sq 4 0 0 2 L.length .no] 38)]) 6 (-1) ⟨by omega, by omega⟩ [0, 1, 2, 3, 4, 5] rfl rfl (by simp [conj, less_rfl, ren_cntF, renR_cntF, ren_ldr]) ?_
    rintro s ⟨s1, s2'⟩ ih
    refine goI hB rfl rfl (by simp [conj]) ?_
    refine run_cond rfl (fun h => ?_) (fun h => ?_)
    · have hs : s ≤ S := by simpa using h
      clear h
      refine goI hB rfl rfl (by simp [conj, isMp58, isPt25]) ?_
      refine run_condF rfl rfl ?_
      refine goI hB rfl rfl (by simp [conj, isMp58, isPt25]) ?_
      refine run_callC (atR_hc S Bk P L cap (by omega) s) named hB [4] rfl rfl rfl rfl (by simp [conj]) (by simp [conj, less_rfl, ren_ldr]) ?_
      rintro ⟨⟩ _
      refine ⟨show 1 ≤ 1 by omega, _, _, _, rfl, rfl, rfl, ?_⟩
      refine goI hB rfl rfl (by simp [conj, isBo4]) ?_
      refine run_cond rfl (fun h => ?_) (fun h => ?_)
      · exfalso
        cases hasS L s <;> simp at h
      clear h
      have ih := ih (s + 1) ⟨by omega, by omega⟩ (by omega)
      refine goI hB rfl rfl (by simp [conj, Fits_i64]; omega) ?_
      refine run_back ?_
      refine run_to hpin [0, 1, 2, 3, 4, 5] rfl rfl ?_ ih
      clear ih
      simp [conj, less_rfl, ren_cntF, renR_cntF, ren_ldr]
    clear ih h
    refine goI hB rfl rfl (by simp [conj]) ?_
    refine run_loop ?_
    refine run_inv (ι := Int) hpin (fun b => -1 ≤ b ∧ b ≤ Bk + 1) (fun b => (Bk + 1 - b).toNat) (fun b => [(0, .ptr 0 0), (3, .ptr 5 0), (11, i64 b), (4, .ff)]) (fun _ => [])
      (fun _ => mpH S Bk P L ++ [(5, .cells [i64 S, i64 Bk, i64 P, .sq 4 0 0 2 L.length .no] 38)]) 6 (-1) ⟨by omega, by omega⟩ [0, 1, 2, 3, 4, 5] rfl rfl (by simp [conj, less_rfl, ren_cntF, renR_cntF, ren_ldr]) ?_
    rintro b ⟨b1, b2⟩ ih
    refine goI hB rfl rfl (by simp [conj]) ?_
    refine run_cond rfl (fun h => ?_) (fun h => ?_)
    · have hb : b ≤ Bk := by simpa using h
      clear h
      have ih := ih (b + 1) ⟨by omega, by omega⟩ (by omega)
      refine goI hB rfl rfl (by simp [conj, isMp58, isPt25]) ?_
      refine run_callC (ofR_hc S Bk P hN L cap (by omega) b) named hB [4] rfl rfl rfl rfl (by simp [conj]) (by simp [conj, less_rfl, ren_ldr]) ?_
      rintro ⟨⟩ _
      refine ⟨show 1 ≤ 2 by omega, _, _, _, rfl, rfl, rfl, ?_⟩
      refine goI hB rfl rfl (by simp [conj, isMp58, isPt25]) ?_
      refine run_callC (pages_hc S Bk P hN L hL b) named hB [0, 1, 2, 3] rfl rfl rfl rfl (by simp [conj]) (by simp [conj, less_rfl, ren_cntF]) ?_
      rintro ⟨⟩ _
      refine ⟨show 4 ≤ 8 by omega, _, _, _, rfl, rfl, rfl, ?_⟩
      refine goIY hB [(17, 94)] 300 rfl (by simp [conj, isFn45]) ?_
      refine goIY hB [] 300 rfl (by simp [conj]) ?_
      refine run_callC (valid_hc S Bk P hN L hL b) named hB [0, 1, 2, 3] rfl rfl rfl rfl (by simp [conj]) (by simp [conj, less_rfl, ren_cntF, renR_cntF]) ?_
      rintro ⟨⟩ _
      refine ⟨show 4 ≤ 4 by omega, _, _, _, rfl, rfl, rfl, ?_⟩
      refine goIY hB [(17, 100)] 300 rfl (by simp [conj]) ?_
      refine run_ff (by simp) ?_
      refine goIY hB [] 300 rfl (by simp [conj]) ?_
      have hol : (ofL L Bk P b).length ≤ 512 := by
        unfold ofL
        split
        · exact Nat.le_trans (ofTo_len _ _ _ _) (by omega)
        · exact Nat.zero_le _
      have hr2 : rdN (ofL L Bk P b).length 1073741824 = (ofL L Bk P b).length := by unfold rdN; rw [if_neg (by decide)]; omega
      refine run_callC (read_hc false _ _ (ofL L Bk P b) (rdOk_f _) (by omega) 1073741824) named hB [7, 8, 9, 10] rfl rfl rfl rfl (by simp [conj]) (by simp [conj, less_rfl, ren_rowL, renR_rowL]) ?_
      rintro ⟨⟩ _
      refine ⟨show 4 ≤ 5 by omega, _, _, _, rfl, rfl, rfl, ?_⟩
      refine goIY hB [] 300 rfl (by simp [conj]) ?_
      refine run_callC (same_hc (ofL L Bk P b) (ofL L Bk P b) 0 0 (ofL L Bk P b).length (ofL L Bk P b).length (by omega)) named hB [11, 6] rfl rfl rfl rfl (by simp [conj]) (by simp [conj, less_rfl, ren_ldr, renR_ldr, hr2]) ?_
      rintro ⟨⟩ _
      refine ⟨show 2 ≤ 2 by omega, _, _, _, rfl, rfl, rfl, ?_⟩
      refine goI hB rfl rfl (by simp [conj]) ?_
      refine run_cond rfl (fun h => by simp at h) (fun h => ?_)
      clear h
      refine goI hB rfl rfl (by simp [conj, Fits_i64]; omega) ?_
      refine run_back ?_
      refine run_to hpin [0, 1, 2, 3, 4, 5] rfl rfl ?_ ih
      clear ih
      simp [conj, less_rfl, ren_cntF, renR_cntF, ren_ldr]
    clear ih h
    refine goI hB rfl rfl (by simp [conj]) ?_
    refine run_loop ?_
    refine run_inv (ι := Int) hpin (fun p => -1 ≤ p ∧ p ≤ Bk * P + 1) (fun p => (Bk * P + 1 - p).toNat) (fun p => [(0, .ptr 0 0), (3, .ptr 5 0), (14, i64 p), (4, .ff)]) (fun _ => [])
      (fun _ => mpH S Bk P L ++ [(5, .cells [i64 S, i64 Bk, i64 P, .sq 4 0 0 2 L.length .no] 38)]) 6 (-1) ⟨by omega, by omega⟩ [0, 1, 2, 3, 4, 5] rfl rfl (by simp [conj, less_rfl, ren_cntF, renR_cntF, ren_ldr]) ?_
    rintro p ⟨p1, p2⟩ ih
    refine goI hB rfl rfl (by simp [conj, Fits_i64]; omega) ?_
    refine run_cond rfl (fun h => ?_) (fun h => ?_)
    · have hp : p ≤ Bk * P := by simpa using h
      clear h
      have ih := ih (p + 1) ⟨by omega, by omega⟩ (by omega)
      refine goI hB rfl rfl (by simp [conj, isMp58, isPt25]) ?_
      refine run_condF rfl rfl ?_
      refine goI hB rfl rfl (by simp [conj, isMp58, isPt25]) ?_
      refine run_callC (secR_hc S Bk P L cap (by omega) p) named hB [4] rfl rfl rfl rfl (by simp [conj]) (by simp [conj, less_rfl, ren_ldr]) ?_
      rintro ⟨⟩ _
      refine ⟨show 1 ≤ 1 by omega, _, _, _, rfl, rfl, rfl, ?_⟩
      refine goI hB rfl rfl (by simp [conj, isBo4]) ?_
      refine run_cond rfl (fun h => ?_) (fun h => ?_)
      · exfalso
        cases hasP L p <;> simp at h
      clear h
      refine goI hB rfl rfl (by simp [conj, Fits_i64]; omega) ?_
      refine run_back ?_
      refine run_to hpin [0, 1, 2, 3, 4, 5] rfl rfl ?_ ih
      clear ih
      simp [conj, less_rfl, ren_cntF, renR_cntF, ren_ldr]
    clear ih h
    refine goI hB rfl rfl (by simp [conj]) ?_
    exact run_retC hpin () trivial [0, 1, 2, 3, 4] rfl rfl (by simp [conj]) rfl (by simp [conj, less_rfl, ren_cntF, renR_cntF, ren_ldr])
end Sx
