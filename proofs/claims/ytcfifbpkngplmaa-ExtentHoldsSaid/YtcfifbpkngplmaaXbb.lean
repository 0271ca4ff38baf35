/- How often each sector is owned. Conditions: as each theorem says. -/
import Derived.Test.YtcfifbpkngplmaaXba
set_option linter.unusedSimpArgs false
set_option linter.unusedVariables false
namespace Sx
open Go Go.Proofs
set_option maxRecDepth 100000
set_option pp.deepTerms true
set_option pp.maxSteps 10000000
def hitB (s : XSt) (a : Int) (k : Nat) (y : Int) : Bool := (lkS s a k).2.1 && decide ((lkS s a k).1 = y)
/-- How many of the first k sectors of a namespace lie at y. -/
def cIn (s : XSt) (a y : Int) : Nat → Int
  | 0 => 0
  | k + 1 => cIn s a y k + (bif hitB s a k y then 1 else 0)
def cAll (s : XSt) (l : List Int) (y : Int) : Nat → Int
  | 0 => 0
  | j + 1 => cAll s l y j + cIn s (kF l j) y (s.sz (kF l j)).toNat
def owF (s : XSt) (l : List Int) (j k : Nat) : Nat → Int := fun y => cAll s l y j + cIn s (kF l j) y k
theorem hit_spec {s : XSt} {a y : Int} {k : Nat} (h : hitB s a k y = true) : (lkS s a k).2.1 = true ∧ (lkS s a k).1 = y := by
  unfold hitB at h
  simpa using h
theorem lk_at {s : XSt} {id q : Int} (h : (lkS s id q).2.1 = true) : (lkS s id q).1 = (s.u id (q / s.un).toNat - 1) * s.un + q % s.un := by
  obtain ⟨h1, h2, h3, h4, h5, h6, _⟩ := lk_is h
  unfold lkS
  rw [if_neg (by omega), if_neg (by rw [h4]; decide), if_neg (by omega), if_neg h6]
theorem hit_uq {s : XSt} {l : List Int} (hP : PInv s l) {a a' y : Int} {k k' : Nat} (h : hitB s a k y = true) (h' : hitB s a' k' y = true) : a = a' ∧ k = k' := by
  obtain ⟨g1, g2⟩ := hit_spec h
  obtain ⟨g1', g2'⟩ := hit_spec h'
  have e1 := lk_at g1
  have e2 := lk_at g1'
  obtain ⟨_, _, _, hh, _, hu0, _⟩ := lk_is g1
  obtain ⟨_, _, _, hh', _, hu0', _⟩ := lk_is g1'
  have hu := hP.u0
  obtain ⟨d0, d1, d2, d3⟩ := div_nn (show (0 : Int) ≤ (k : Int) by omega) hu
  obtain ⟨d0', d1', d2', d3'⟩ := div_nn (show (0 : Int) ≤ (k' : Int) by omega) hu
  have ek := Int.emod_add_mul_ediv (k : Int) s.un
  have ek' := Int.emod_add_mul_ediv (k' : Int) s.un
  rw [g2] at e1; rw [g2'] at e2
  have ub := (hP.ub a ((k : Int) / s.un).toNat hh).1
  generalize hA : s.u a ((k : Int) / s.un).toNat = A at *
  generalize hA' : s.u a' ((k' : Int) / s.un).toNat = A' at *
  generalize hr : (k : Int) % s.un = r at *
  generalize hr' : (k' : Int) % s.un = r' at *
  have key : A - 1 = A' - 1 := by
    have f1 : y / s.un = A - 1 := by
      rw [e1, Int.add_comm, Int.add_mul_ediv_right _ _ (by omega), Int.ediv_eq_zero_of_lt d1 d2]; omega
    have f2 : y / s.un = A' - 1 := by
      rw [e2, Int.add_comm, Int.add_mul_ediv_right _ _ (by omega), Int.ediv_eq_zero_of_lt d1' d2']; omega
    omega
  have hAA : A = A' := by omega
  have hrr : r = r' := by rw [hAA] at e1; omega
  obtain ⟨f1, f2⟩ := hP.uq a _ a' _ hh hh' (by rw [hA]; omega) (by rw [hA, hA']; exact hAA)
  have f3 : (k : Int) / s.un = (k' : Int) / s.un := by omega
  refine ⟨f1, ?_⟩
  rw [f3, hrr] at ek
  omega
theorem cIn_zero {s : XSt} {a y : Int} : ∀ {k : Nat}, (∀ q, q < k → hitB s a q y = false) → cIn s a y k = 0
  | 0, _ => rfl
  | k + 1, h => by
    rw [cIn, cIn_zero (fun q hq => h q (by omega)), h k (by omega)]; rfl
theorem cAll_zero {s : XSt} {l : List Int} {y : Int} : ∀ {j : Nat}, (∀ i, i < j → ∀ q, hitB s (kF l i) q y = false) → cAll s l y j = 0
  | 0, _ => rfl
  | j + 1, h => by
    rw [cAll, cAll_zero (fun i hi => h i (by omega)), cIn_zero (fun q _ => h j (by omega) q)]; rfl
theorem ow_zero {s : XSt} {l : List Int} (hP : PInv s l) {j k : Nat} (hj : j < l.length) (hw : (lkS s (kF l j) k).2.1 = true) (h0 : 0 ≤ (lkS s (kF l j) k).1) : owF s l j k (lkS s (kF l j) k).1.toNat = 0 := by
  have hy : ((((lkS s (kF l j) k).1).toNat : Nat) : Int) = (lkS s (kF l j) k).1 := by omega
  have hh : hitB s (kF l j) k (lkS s (kF l j) k).1 = true := by unfold hitB; rw [hw]; simp
  unfold owF
  rw [hy, cAll_zero, cIn_zero]
  · rfl
  · intro q hq
    cases e : hitB s (kF l j) q (lkS s (kF l j) k).1 with
    | false => rfl
    | true => have := (hit_uq hP hh e).2; omega
  · intro i hi q
    cases e : hitB s (kF l i) q (lkS s (kF l j) k).1 with
    | false => rfl
    | true =>
      have := (hit_uq hP hh e).1
      have := kF_inj hP.k.1 hj (by omega) this
      omega
theorem ow_step {s : XSt} {l : List Int} {j k : Nat} (hw : (lkS s (kF l j) k).2.1 = true) (h0 : 0 ≤ (lkS s (kF l j) k).1) : owF s l j (k + 1) = fun i => if i = (lkS s (kF l j) k).1.toNat then owF s l j k (lkS s (kF l j) k).1.toNat + 1 else owF s l j k i := by
  funext i
  unfold owF
  rw [cIn]
  have e : hitB s (kF l j) k i = decide ((lkS s (kF l j) k).1 = i) := by unfold hitB; rw [hw]; simp
  rw [e]
  by_cases hi : i = (lkS s (kF l j) k).1.toNat
  · rw [if_pos hi, decide_eq_true (by omega), ← hi]; show _ + (_ + 1) = _; omega
  · rw [if_neg hi, decide_eq_false (by omega)]; show _ + (_ + 0) = _; omega
theorem ow_skip {s : XSt} {l : List Int} {j k : Nat} (hw : (lkS s (kF l j) k).2.1 = false) : owF s l j (k + 1) = owF s l j k := by
  funext i
  unfold owF
  rw [cIn]
  have e : hitB s (kF l j) k i = false := by unfold hitB; rw [hw]; rfl
  rw [e]; show _ + (_ + 0) = _; omega
theorem ow_next {s : XSt} {l : List Int} {j k : Nat} (h : k = (s.sz (kF l j)).toNat) : owF s l (j + 1) 0 = owF s l j k := by
  funext i
  unfold owF
  rw [cAll, h]; show _ + _ + (0 : Int) = _; omega
theorem ow_start (s : XSt) (l : List Int) : owF s l 0 0 = fun _ => 0 := by
  funext i; rfl
/-- Where a sector lies. -/
theorem lk_bd {s : XSt} {l : List Int} (hP : PInv s l) {id q n : Int} (hw : (lkS s id q).2.1 = true) (hn : s.un * s.tot ≤ n) : 0 ≤ (lkS s id q).1 ∧ (lkS s id q).1 < n := by
  have e := lk_at hw
  obtain ⟨h1, h2, h3, h4, h5, h6, _⟩ := lk_is hw
  have hu := hP.u0
  obtain ⟨d0, d1, d2, d3⟩ := div_nn h1 hu
  obtain ⟨b1, b2⟩ := hP.ub id (q / s.un).toNat h4
  generalize s.u id (q / s.un).toNat = A at *
  have p1 : 0 ≤ (A - 1) * s.un := Int.mul_nonneg (by omega) (Int.le_of_lt hu)
  have p2 : A * s.un ≤ s.tot * s.un := Int.mul_le_mul_of_nonneg_right b2 (Int.le_of_lt hu)
  have p3 : (A - 1) * s.un = A * s.un - s.un := by rw [Int.sub_mul, Int.one_mul]
  have p4 : s.un * s.tot = s.tot * s.un := Int.mul_comm _ _
  constructor <;> omega
/-- A sector of a namespace that is there: no error. -/
theorem lk_no {s : XSt} {l : List Int} (hP : PInv s l) {id q : Int} (hh : s.h id = true) (h0 : 0 ≤ q) (h1 : q < s.sz id) : (lkS s id q).2.2 = 0 := by
  obtain ⟨i1, i2⟩ := hP.ids id hh
  unfold lkS
  rw [if_neg (by omega), if_neg (by rw [hh]; decide), if_neg (by omega)]
  split <;> rfl
/-- All units of the first namespaces, one more. -/
theorem sumC_succ (s : XSt) (l : List Int) (j : Nat) : sumC (rsOf s l) (j + 1) = sumC (rsOf s l) j + cntU (s.u (kF l j)) (s.n (kF l j)) := by
  have e : sumC (rsOf s l) (j + 1) = sumC (rsOf s l) j + cntR ((rsOf s l).U j) ((rsOf s l).N j) := rfl
  have e3 : cntR ((rsOf s l).U j) ((rsOf s l).N j) = cntU (s.u (kF l j)) (s.n (kF l j)) := cntU_congr fun q _ => by show s.u (kF l j) q - 1 + 1 = _; omega
  rw [e, e3]
theorem sumC_mono (s : XSt) (l : List Int) (j : Nat) : ∀ d, sumC (rsOf s l) j ≤ sumC (rsOf s l) (j + d)
  | 0 => Int.le_refl _
  | d + 1 => by
    have := sumC_mono s l j d
    rw [← Nat.add_assoc, sumC_succ]; omega
theorem sumC_bd {s : XSt} {l : List Int} (hP : PInv s l) {j : Nat} (hj : j ≤ l.length) : 0 ≤ sumC (rsOf s l) j ∧ sumC (rsOf s l) j ≤ 400 := by
  have h1 := sumC_mono s l 0 j
  have h2 := sumC_mono s l j (l.length - j)
  have h0 : sumC (rsOf s l) 0 = 0 := rfl
  rw [Nat.zero_add, h0] at h1
  rw [show j + (l.length - j) = l.length by omega, sumC_rs] at h2
  have hc := hP.cnt
  have n1 := hP.n1
  have t1 := hP.t1
  exact ⟨h1, by omega⟩
end Sx
