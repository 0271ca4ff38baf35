/- Texts of this law, joined: what the functions do. Conditions: as each theorem says. -/
import Derived.Test.YtdjckiilfplnfaaOwnX11
set_option linter.unusedSimpArgs false
set_option linter.unusedVariables false
section
/- Parts in a row; the histories of JudgeLong: plainly. Conditions: as each theorem says. -/
namespace Sx
open Go Go.Proofs
set_option maxRecDepth 100000
set_option pp.deepTerms true
set_option pp.maxSteps 10000000
/-- The first parts. -/
def fm (i : Nat) : Nat := maskN (fun _ => true) i
theorem fm_bit (i j : Nat) : (fm i).testBit j = decide (j < i) := by unfold fm; rw [maskN_bit, Bool.and_true]
/-- Parts each of which may follow those before it, in a row. -/
theorem seq_rch {P : Nat → PT} {n : Nat} {last : Bool} (hn : n ≤ 16) (st : Nat → List Int) (hst : ∀ i, i < n → okA (P i) (st i) = true ∧ st (i + 1) = apL (P i) (st i)) (hb : ∀ i k, i < n → k < n → pbf P i k = true → k < i) (i : Nat) :
    ∀ d, i + d ≤ n → Rch (sqOf P n last) (fm i, st i) (fm (i + d), st (i + d))
  | 0, _ => .refl _
  | d + 1, h => by
    refine (seq_rch hn st hst hb i d (by omega)).trans ?_
    have hi : i + d < n := by omega
    obtain ⟨h1, h2⟩ := hst (i + d) hi
    refine .step (i + d) hi ⟨?_, h1⟩ ?_
    · unfold frS
      rw [Bool.and_eq_true, Bool.not_eq_true', decide_eq_true_iff]
      refine ⟨by rw [fm_bit]; simp, (andn_zero (pbf P (i + d)) n (fm (i + d)) hn).2 fun k hk hp => ?_⟩
      rw [fm_bit, decide_eq_true_iff]
      exact hb (i + d) k hi hk hp
    · have : chI (sqOf P n last) (fm (i + d), st (i + d)) (i + d) = (fm (i + (d + 1)), st (i + (d + 1))) := by
        show (fm (i + d) ||| 2 ^ (i + d), apL (P (i + d)) (st (i + d))) = _
        rw [← h2]
        rfl
      rw [this]
      exact .refl _
def HL (n : Nat) (ov : Bool) : Hi := ⟨1, 2, n, fun i => ⟨1, 0, 1, fun _ => 7, if ov = true then 0 else 2 * (i : Int), if ov = true then 1 else 2 * (i : Int) + 1, false⟩, 0, fun _ => 0⟩
def s7 : List Int := [7, 0, 0, 0, 0, 0, 0, 0]
end Sx
end
section
/- A history of operations one after the other is explained: plainly. Conditions: as each theorem says. -/
namespace Sx
open Go Go.Proofs
set_option maxRecDepth 100000
set_option pp.deepTerms true
set_option pp.maxSteps 10000000
/-- The values after a write. -/
def wrt (o : HO) (s : Nat → Int) : Nat → Int := fun x => if o.f.toNat ≤ x ∧ x < o.f.toNat + o.n then o.v (x - o.f.toNat) else s x
/-- The values of a unit. -/
def uv (un u : Nat) (s : Nat → Int) : List Int := (List.range 8).map fun k => if k < un then s (u * un + k) else 0
theorem uv_len (un u : Nat) (s : Nat → Int) : (uv un u s).length = 8 := by simp [uv]
theorem uv_get (un u : Nat) (s : Nat → Int) {k : Nat} (hk : k < 8) : (uv un u s).getD k 0 = if k < un then s (u * un + k) else 0 := by
  unfold uv
  simp [List.getD_eq_getElem?_getD, hk]
theorem apL_get (T : PT) (l : List Int) {k : Nat} (hk : k < 8) : (apL T l).getD k 0 = if T.f.toNat ≤ k ∧ k < T.f.toNat + T.n then T.v (k - T.f.toNat) else l.getD k 0 := by
  unfold apL apF
  simp [List.getD_eq_getElem?_getD, hk]
section
variable {H : Hi} {un u : Nat} (hun : H.unit = un) (h8 : un ≤ 8) {i : Nat} (hf : 0 ≤ (H.op i).f)
include hun h8 hf
/-- A write with a part in the unit. -/
theorem uv_write (l : List Nat) (hp : pA H (u : Int) i < pB H (u : Int) i) (s : Nat → Int) : uv un u (wrt (H.op i) s) = apL (ptOf H (u : Int) l i) (uv un u s) := by
  have _u := h8
  refine ext8 (uv_len _ _ _) (apL_len _ _) fun k hk => ?_
  rw [uv_get _ _ _ hk, apL_get _ _ hk, uv_get _ _ _ hk]
  have e1 : (u : Int) * H.unit = ((u * un : Nat) : Int) := by rw [hun, Int.natCast_mul]
  have e2 : ((u : Int) + 1) * H.unit = ((u * un : Nat) : Int) + un := by rw [Int.add_mul, e1, hun, Int.one_mul]
  have hpa : pA H (u : Int) i = max ((u * un : Nat) : Int) (H.op i).f := by unfold pA; rw [e1]
  have hpb : pB H (u : Int) i = min (((u * un : Nat) : Int) + un) ((H.op i).f + (H.op i).n) := by unfold pB; rw [e2]
  show _ = if (pA H (u : Int) i - u * H.unit).toNat ≤ k ∧ k < (pA H (u : Int) i - u * H.unit).toNat + (pB H (u : Int) i - pA H (u : Int) i).toNat then (H.op i).v ((pA H (u : Int) i - (H.op i).f).toNat + (k - (pA H (u : Int) i - u * H.unit).toNat)) else _
  rw [hpa, hpb] at hp
  rw [hpa, hpb, e1]
  generalize u * un = X at *
  unfold wrt
  by_cases c1 : k < un
  · rw [if_pos c1, if_pos c1]
    by_cases c2 : (H.op i).f.toNat ≤ X + k ∧ X + k < (H.op i).f.toNat + (H.op i).n
    · rw [if_pos c2, if_pos (by omega)]
      congr 1
      omega
    · rw [if_neg c2, if_neg (by omega)]
  · rw [if_neg c1, if_neg c1, if_neg (by omega)]
/-- A write without one. -/
theorem uv_skip (hp : ¬ pA H (u : Int) i < pB H (u : Int) i) (s : Nat → Int) : uv un u (wrt (H.op i) s) = uv un u s := by
  refine ext8 (uv_len _ _ _) (uv_len _ _ _) fun k hk => ?_
  rw [uv_get _ _ _ hk, uv_get _ _ _ hk]
  have e1 : (u : Int) * H.unit = ((u * un : Nat) : Int) := by rw [hun, Int.natCast_mul]
  have e2 : ((u : Int) + 1) * H.unit = ((u * un : Nat) : Int) + un := by rw [Int.add_mul, e1, hun, Int.one_mul]
  have hpa : pA H (u : Int) i = max ((u * un : Nat) : Int) (H.op i).f := by unfold pA; rw [e1]
  have hpb : pB H (u : Int) i = min (((u * un : Nat) : Int) + un) ((H.op i).f + (H.op i).n) := by unfold pB; rw [e2]
  rw [hpa, hpb] at hp
  generalize u * un = X at *
  unfold wrt
  by_cases c1 : k < un
  · rw [if_pos c1, if_pos c1, if_neg (by omega)]
  · rw [if_neg c1, if_neg c1]
/-- A read of the values that are there. -/
theorem uv_read (l : List Nat) (hp : pA H (u : Int) i < pB H (u : Int) i) (s : Nat → Int) (hr : ∀ q, q < (H.op i).n → (H.op i).v q = s ((H.op i).f.toNat + q)) : okA (ptOf H (u : Int) l i) (uv un u s) = true := by
  unfold okA
  rw [Bool.or_eq_true, List.all_eq_true]
  right
  intro q hq
  have hq := List.mem_range.1 hq
  have e1 : (u : Int) * H.unit = ((u * un : Nat) : Int) := by rw [hun, Int.natCast_mul]
  have e2 : ((u : Int) + 1) * H.unit = ((u * un : Nat) : Int) + un := by rw [Int.add_mul, e1, hun, Int.one_mul]
  have hpa : pA H (u : Int) i = max ((u * un : Nat) : Int) (H.op i).f := by unfold pA; rw [e1]
  have hpb : pB H (u : Int) i = min (((u * un : Nat) : Int) + un) ((H.op i).f + (H.op i).n) := by unfold pB; rw [e2]
  have hq : q < (pB H (u : Int) i - pA H (u : Int) i).toNat := hq
  rw [decide_eq_true_iff]
  show (uv un u s).getD ((pA H (u : Int) i - u * H.unit).toNat + q) 0 = (H.op i).v ((pA H (u : Int) i - (H.op i).f).toNat + q)
  rw [hpa, hpb] at hp hq
  rw [hpa, e1]
  have hk : (max ((u * un : Nat) : Int) (H.op i).f - ((u * un : Nat) : Int)).toNat + q < 8 := by generalize u * un = X at *; omega
  rw [uv_get _ _ _ hk, if_pos (by generalize u * un = X at *; omega), hr _ (by generalize u * un = X at *; omega)]
  congr 1
  generalize u * un = X at *
  omega
end
/-- The trace of a device behind a history. -/
structure Tr (H : Hi) (A : Nat → Nat) (S : Nat → Nat → Nat → Int) (M : Nat → Nat) : Prop where
  a0 : A 0 = 0
  am : A (H.nc + 1) = H.m
  mono : ∀ e, e ≤ H.nc → A e ≤ A (e + 1)
  ct : ∀ e, e < H.nc → ∀ j, j < H.m → (H.c e ≤ (H.op j).b ↔ A (e + 1) ≤ j)
  k : ∀ j, j < H.m → 0 ≤ (H.op j).f ∧ ((H.op j).k = 0 ∨ (H.op j).k = 1 ∨ (H.op j).k = 2)
  t : ∀ j, j < H.m → 0 ≤ (H.op j).b ∧ (H.op j).e = (H.op j).b + 1
  inc : ∀ i j, i < j → j < H.m → (H.op i).b < (H.op j).b
  w : ∀ e j, e ≤ H.nc → A e ≤ j → j < A (e + 1) → (H.op j).k = 1 → S e (j + 1) = wrt (H.op j) (S e j)
  nw : ∀ e j, e ≤ H.nc → A e ≤ j → j < A (e + 1) → (H.op j).k ≠ 1 → S e (j + 1) = S e j
  r : ∀ e j, e ≤ H.nc → A e ≤ j → j < A (e + 1) → (H.op j).k = 0 → ∀ q, q < (H.op j).n → (H.op j).v q = S e j ((H.op j).f.toNat + q)
  z : S 0 0 = fun _ => 0
  cut : ∀ e, e < H.nc → A e ≤ M e ∧ M e ≤ A (e + 1) ∧ S (e + 1) (A (e + 1)) = S e (M e) ∧ ∀ j, M e ≤ j → j < A (e + 1) → (H.op j).k = 1 → (H.op j).fo = false ∧ ∀ f, A e ≤ f → f < A (e + 1) → (H.op f).k = 2 → ¬ (H.op j).e < (H.op f).b
end Sx
end
section
/- A history of operations one after the other is explained: plainly, the second half. Conditions: as each theorem says. -/
namespace Sx
open Go Go.Proofs
set_option maxRecDepth 100000
set_option pp.deepTerms true
set_option pp.maxSteps 10000000
theorem filter_range' (p : Nat → Bool) {a b m : Nat} (hp : ∀ j, j < m → (p j = true ↔ a ≤ j ∧ j < b)) : ∀ n, n ≤ m → (List.range n).filter p = List.range' a (min n b - a)
  | 0, _ => by simp
  | n + 1, h => by
    rw [List.range_succ, List.filter_append, filter_range' p hp n (by omega)]
    cases e : p n with
    | true =>
      obtain ⟨h1, h2⟩ := (hp n (by omega)).1 e
      rw [show min (n + 1) b - a = (min n b - a) + 1 by omega, List.range'_1_concat, show a + (min n b - a) = n by omega]
      simp [e]
    | false =>
      have : ¬ (a ≤ n ∧ n < b) := fun q => by rw [(hp n (by omega)).2 q] at e; cases e
      rw [show min (n + 1) b - a = min n b - a by omega]
      simp [e]
section
variable {H : Hi} {A : Nat → Nat} {S : Nat → Nat → Nat → Int} {M : Nat → Nat} (h : Tr H A S M)
include h
theorem Tr.le {a : Nat} : ∀ d, a + d ≤ H.nc + 1 → A a ≤ A (a + d)
  | 0, _ => Nat.le_refl _
  | d + 1, hd => Nat.le_trans (Tr.le d (by omega)) (h.mono (a + d) (by omega))
theorem Tr.lem {a b : Nat} (hab : a ≤ b) (hb : b ≤ H.nc + 1) : A a ≤ A b := by
  have := h.le (a := a) (b - a) (by omega)
  rwa [show a + (b - a) = b by omega] at this
theorem Tr.epo (hv : VHi H) {j e : Nat} (hj : j < H.m) (he : e ≤ H.nc) : ep H (H.op j).b = e ↔ A e ≤ j ∧ j < A (e + 1) := by
  have hs := ep_spec hv.cs (H.op j).b
  generalize ep H (H.op j).b = E at hs
  obtain ⟨h1, h2, h3⟩ := hs
  have g1 : A E ≤ j := by
    rcases Nat.eq_zero_or_pos E with q | q
    · rw [q, h.a0]; omega
    · have := (h.ct (E - 1) (by omega) j hj).1 (h2 (E - 1) (by omega))
      rwa [show E - 1 + 1 = E by omega] at this
  have g2 : j < A (E + 1) := by
    rcases Nat.lt_or_ge E H.nc with q | q
    · have := h3 q
      have : ¬ A (E + 1) ≤ j := fun w => by have := (h.ct E q j hj).2 w; omega
      omega
    · rw [show E = H.nc by omega, h.am]; exact hj
  constructor
  · rintro rfl; exact ⟨g1, g2⟩
  · rintro ⟨k1, k2⟩
    rcases Nat.lt_trichotomy E e with q | q | q
    · have := h.lem (a := E + 1) (b := e) (by omega) (by omega); omega
    · exact q
    · have := h.lem (a := e + 1) (b := E) (by omega) (by omega); omega
theorem Tr.ops (hv : VHi H) {e : Nat} (he : e ≤ H.nc) : opsE H e = List.range' (A e) (A (e + 1) - A e) := by
  have hm : A (e + 1) ≤ H.m := by rw [← h.am]; exact h.lem (by omega) (Nat.le_refl _)
  have := filter_range' (fun j => ep H (H.op j).b == e) (a := A e) (b := A (e + 1)) (m := H.m) (fun j hj => by
    rw [beq_iff_eq]; exact h.epo hv hj he) H.m (Nat.le_refl _)
  rw [show min H.m (A (e + 1)) = A (e + 1) by omega] at this
  exact this
variable {un u : Nat} (hun : H.unit = un) (h8 : un ≤ 8) (hv : VHi H)
/-- The parts among the first operations of an epoch. -/
def Qp (H : Hi) (A : Nat → Nat) (u e j : Nat) : List Nat := (List.range' (A e) j).filter (isP H (u : Int))
omit h in
theorem Qp_succ (H : Hi) (A : Nat → Nat) (u e j : Nat) : Qp H A u e (j + 1) = Qp H A u e j ++ [A e + j].filter (isP H (u : Int)) := by
  unfold Qp
  rw [List.range'_1_concat, List.filter_append]
omit h in
theorem Qp_app (H : Hi) (A : Nat → Nat) (u e j d : Nat) : Qp H A u e (j + d) = Qp H A u e j ++ (List.range' (A e + j) d).filter (isP H (u : Int)) := by
  unfold Qp
  rw [← List.filter_append, List.range'_append_1]
def stQ (H : Hi) (u e : Nat) (z : List Int) : Nat → List Int
  | 0 => z
  | q + 1 => apL (ptE H (u : Int) e q) (stQ H u e z q)
include hun h8 hv
theorem Tr.PLq {e : Nat} (he : e ≤ H.nc) : PL H (u : Int) (opsE H e) = Qp H A u e (A (e + 1) - A e) := by
  have _u := And.intro hun h8
  rw [h.ops hv he]; rfl
theorem Tr.pt {e : Nat} (he : e ≤ H.nc) (q : Nat) : ptE H (u : Int) e q = ptOf H (u : Int) (opsE H e) ((Qp H A u e (A (e + 1) - A e)).getD q 0) := by
  show ptOf H _ (opsE H e) ((PL H _ (opsE H e)).getD q 0) = _
  rw [h.PLq hun h8 hv he]
theorem Tr.step {e : Nat} (he : e ≤ H.nc) : ∀ j, j ≤ A (e + 1) - A e →
    uv un u (S e (A e + j)) = stQ H u e (uv un u (S e (A e))) (Qp H A u e j).length ∧ ∀ q, q < (Qp H A u e j).length → okA (ptE H (u : Int) e q) (stQ H u e (uv un u (S e (A e))) q) = true
  | 0, _ => ⟨rfl, fun q hq => absurd hq (Nat.not_lt_zero _)⟩
  | j + 1, hj => by
    obtain ⟨g1, g2⟩ := Tr.step he j (by omega)
    have hA1 : A e + j < A (e + 1) := by omega
    have hm : A e + j < H.m := by
      have := h.lem (a := e + 1) (b := H.nc + 1) (by omega) (Nat.le_refl _)
      rw [h.am] at this; omega
    obtain ⟨hf, hk⟩ := h.k (A e + j) hm
    rw [Qp_succ]
    cases hp : isP H (u : Int) (A e + j) with
    | false =>
      rw [show [A e + j].filter (isP H (u : Int)) = [] by simp [hp], List.append_nil]
      refine ⟨?_, g2⟩
      rw [← g1]
      by_cases c : (H.op (A e + j)).k = 1
      · rw [← Nat.add_assoc, h.w e _ he (by omega) hA1 c]
        refine uv_skip hun h8 hf (fun q => ?_) _
        unfold isP at hp
        rw [decide_eq_true q, Bool.and_true, Bool.not_eq_false', decide_eq_true_iff] at hp
        omega
      · rw [← Nat.add_assoc, h.nw e _ he (by omega) hA1 c]
    | true =>
      rw [show [A e + j].filter (isP H (u : Int)) = [A e + j] by simp [hp], List.length_append, List.length_singleton]
      have hpt : ptE H (u : Int) e (Qp H A u e j).length = ptOf H (u : Int) (opsE H e) (A e + j) := by
        rw [h.pt hun h8 hv he]
        congr 1
        rw [show A (e + 1) - A e = (j + 1) + (A (e + 1) - A e - (j + 1)) by omega, Qp_app, Qp_succ, show [A e + j].filter (isP H (u : Int)) = [A e + j] by simp [hp], List.append_assoc, getD_app_r _ _ _ (Nat.le_refl _), Nat.sub_self]
        rfl
      unfold isP at hp
      rw [Bool.and_eq_true, Bool.not_eq_true', decide_eq_false_iff_not, decide_eq_true_iff] at hp
      obtain ⟨hp1, hp2⟩ := hp
      have hok : okA (ptE H (u : Int) e (Qp H A u e j).length) (stQ H u e (uv un u (S e (A e))) (Qp H A u e j).length) = true := by
        rw [hpt, ← g1]
        rcases hk with c | c | c
        · exact uv_read hun h8 hf _ hp2 _ (h.r e _ he (by omega) hA1 c)
        · unfold okA
          have : (ptOf H (u : Int) (opsE H e) (A e + j)).w = true := decide_eq_true c
          rw [this]; rfl
        · exact absurd c hp1
      refine ⟨?_, fun q hq => ?_⟩
      · show _ = apL (ptE H (u : Int) e (Qp H A u e j).length) (stQ H u e (uv un u (S e (A e))) (Qp H A u e j).length)
        by_cases c : (H.op (A e + j)).k = 1
        · rw [hpt, ← g1, ← Nat.add_assoc, h.w e _ he (by omega) hA1 c]
          exact uv_write hun h8 hf _ hp2 _
        · have hw : (ptE H (u : Int) e (Qp H A u e j).length).w = false := by rw [hpt]; exact decide_eq_false c
          rw [apL_read (by rw [← g1]; exact uv_len _ _ _) hw hok, ← g1, ← Nat.add_assoc, h.nw e _ he (by omega) hA1 c]
      · rcases Nat.eq_or_lt_of_le (Nat.le_of_lt_succ hq) with q1 | q1
        · rw [q1]; exact hok
        · exact g2 q q1
/-- The parts come one after the other. -/
theorem Tr.sorted {e : Nat} (he : e ≤ H.nc) {q q' : Nat} (hq : q < q') (hq' : q' < (Qp H A u e (A (e + 1) - A e)).length) : (Qp H A u e (A (e + 1) - A e)).getD q 0 < (Qp H A u e (A (e + 1) - A e)).getD q' 0 := by
  have _u := And.intro h (And.intro hv (And.intro hun h8))
  have hp : (Qp H A u e (A (e + 1) - A e)).Pairwise (· < ·) := List.Pairwise.filter _ List.pairwise_lt_range'
  rw [List.pairwise_iff_getElem] at hp
  have := hp q q' (by omega) hq' hq
  rw [List.getD_eq_getElem?_getD, List.getD_eq_getElem?_getD, List.getElem?_eq_getElem (by omega), List.getElem?_eq_getElem hq']
  exact this
theorem Tr.mem {e : Nat} {l : List Nat} {a d : Nat} (hl : l = (List.range' a d).filter (isP H (u : Int))) {q : Nat} (hq : q < l.length) : a ≤ l.getD q 0 ∧ l.getD q 0 < a + d := by
  have _u := And.intro h (And.intro hv (And.intro hun h8))
  have : l.getD q 0 ∈ l := by
    rw [List.getD_eq_getElem?_getD, List.getElem?_eq_getElem hq]
    exact List.getElem_mem hq
  rw [hl] at this
  rw [hl]
  have := List.mem_range'_1.1 (List.mem_filter.1 this).1
  exact this
theorem Tr.bf {e : Nat} (he : e ≤ H.nc) (i k : Nat) (hi : i < lenE H (u : Int) e) (hk : k < lenE H (u : Int) e) (hb : pbf (ptE H (u : Int) e) i k = true) : k < i := by
  have hL : lenE H (u : Int) e = (Qp H A u e (A (e + 1) - A e)).length := by unfold lenE; rw [h.PLq hun h8 hv he]
  rw [hL] at hi hk
  have hm : A (e + 1) ≤ H.m := by rw [← h.am]; exact h.lem (by omega) (Nat.le_refl _)
  unfold pbf at hb
  rw [h.pt hun h8 hv he, h.pt hun h8 hv he, Bool.and_eq_true, decide_eq_true_iff] at hb
  have hb : (H.op ((Qp H A u e (A (e + 1) - A e)).getD k 0)).e < (H.op ((Qp H A u e (A (e + 1) - A e)).getD i 0)).b := hb.2
  have m2 : (Qp H A u e (A (e + 1) - A e)).getD k 0 < A e + (A (e + 1) - A e) := (Tr.mem h hun h8 hv (e := e) (a := A e) (d := A (e + 1) - A e) rfl hk).2
  have hmo := h.mono e he
  have ht := (h.t _ (show (Qp H A u e (A (e + 1) - A e)).getD k 0 < H.m by omega)).2
  rcases Nat.lt_trichotomy k i with q | q | q
  · exact q
  · subst q; omega
  · have hs := h.sorted hun h8 hv he q hk
    have := h.inc _ _ hs (by omega)
    omega
/-- The values at the start of an epoch are possible. -/
theorem Tr.fs (hlen : ∀ e, e ≤ H.nc → lenE H (u : Int) e ≤ 12) : ∀ e, e ≤ H.nc → FS H (u : Int) e (uv un u (S e (A e)))
  | 0, _ => by
    show uv un u (S 0 (A 0)) = zV
    rw [h.a0, h.z]
    unfold uv zV
    simp
    rfl
  | e + 1, he => by
    refine ⟨_, Tr.fs hlen e (by omega), ?_⟩
    obtain ⟨c1, c2, c3, c4⟩ := h.cut e (by omega)
    have hL : lenE H (u : Int) e = (Qp H A u e (A (e + 1) - A e)).length := by unfold lenE; rw [h.PLq hun h8 hv (by omega)]
    obtain ⟨_, hok⟩ := h.step hun h8 hv (u := u) (e := e) (by omega) (A (e + 1) - A e) (Nat.le_refl _)
    rw [← hL] at hok
    have h12 := hlen e (by omega)
    obtain ⟨hmid, _⟩ := h.step hun h8 hv (u := u) (e := e) (by omega) (M e - A e) (by omega)
    rw [show A e + (M e - A e) = M e by omega] at hmid
    have hsplit : Qp H A u e (A (e + 1) - A e) = Qp H A u e (M e - A e) ++ (List.range' (M e) (A (e + 1) - M e)).filter (isP H (u : Int)) := by
      have := Qp_app H A u e (M e - A e) (A (e + 1) - M e)
      rw [show A e + (M e - A e) = M e by omega, show M e - A e + (A (e + 1) - M e) = A (e + 1) - A e by omega] at this
      exact this
    generalize hkq : (Qp H A u e (M e - A e)).length = kq at hmid
    have hkn : kq ≤ lenE H (u : Int) e := by rw [hL, hsplit, List.length_append, hkq]; omega
    have r1 := fun last => seq_rch (P := ptE H (u : Int) e) (n := lenE H (u : Int) e) (last := last) (by omega) (stQ H u e (uv un u (S e (A e)))) (fun i hi => ⟨hok i hi, rfl⟩) (h.bf hun h8 hv (by omega)) 0 kq (by omega)
    have r2 := fun last => seq_rch (P := ptE H (u : Int) e) (n := lenE H (u : Int) e) (last := last) (by omega) (stQ H u e (uv un u (S e (A e)))) (fun i hi => ⟨hok i hi, rfl⟩) (h.bf hun h8 hv (by omega)) kq (lenE H (u : Int) e - kq) (by omega)
    rw [Nat.zero_add] at r1
    rw [show kq + (lenE H (u : Int) e - kq) = lenE H (u : Int) e by omega] at r2
    rw [c3, hmid]
    refine (aft_law _ _ _ h12 _ _).2 ⟨fm kq, r1 _, ⟨_, r2 _, (mask_sub _ _ _).2 fun j hj _ => by rw [fm_bit, decide_eq_true_iff]; exact hj⟩, ?_⟩
    have hlast : decide (e = H.nc) = false := decide_eq_false (by omega)
    rw [hlast]
    show decide (_ &&& _ = _) = true
    rw [decide_eq_true_iff]
    refine (mask_sub _ _ _).2 fun j hj hdu => ?_
    rw [fm_bit, decide_eq_true_iff]
    rcases Nat.lt_or_ge j kq with q | q
    · exact q
    · exfalso
      have hdu : (ptE H (u : Int) e j).du = true := hdu
      rw [h.pt hun h8 hv (by omega), hsplit, getD_app_r _ _ _ (by omega)] at hdu
      have hjl : j - (Qp H A u e (M e - A e)).length < ((List.range' (M e) (A (e + 1) - M e)).filter (isP H (u : Int))).length := by
        rw [hL, hsplit, List.length_append] at hj; omega
      obtain ⟨m1, m2⟩ := Tr.mem h hun h8 hv (e := e) rfl hjl
      generalize ((List.range' (M e) (A (e + 1) - M e)).filter (isP H (u : Int))).getD (j - (Qp H A u e (M e - A e)).length) 0 = x at hdu m1 m2
      have hdu : (decide ((H.op x).k = 1) && decide (0 ≤ (H.op x).e) && ((H.op x).fo || anyFl H (H.op x).e (opsE H e))) = true := hdu
      rw [Bool.and_eq_true, Bool.and_eq_true, decide_eq_true_iff, Bool.or_eq_true] at hdu
      obtain ⟨⟨d1, _⟩, d2⟩ := hdu
      obtain ⟨f1, f2⟩ := c4 x m1 (by omega) d1
      rcases d2 with d2 | d2
      · rw [f1] at d2; cases d2
      · unfold anyFl at d2
        rw [List.any_eq_true] at d2
        obtain ⟨f, hf, hfl⟩ := d2
        rw [h.ops hv (by omega)] at hf
        have hf := List.mem_range'_1.1 hf
        rw [decide_eq_true_iff] at hfl
        obtain ⟨l1, l2, l3⟩ := hfl
        exact f2 f hf.1 (by omega) l1 l3
/-- Such a history is explained. -/
theorem Tr.some (hlen : ∀ e, e ≤ H.nc → lenE H (u : Int) e ≤ 12) : SomeF H u := by
  obtain ⟨_, hok⟩ := h.step hun h8 hv (u := u) (e := H.nc) (Nat.le_refl _) (A (H.nc + 1) - A H.nc) (Nat.le_refl _)
  have hL : lenE H (u : Int) H.nc = (Qp H A u H.nc (A (H.nc + 1) - A H.nc)).length := by unfold lenE; rw [h.PLq hun h8 hv (Nat.le_refl _)]
  rw [← hL] at hok
  have h12 := hlen H.nc (Nat.le_refl _)
  have r1 := fun last => seq_rch (P := ptE H (u : Int) H.nc) (n := lenE H (u : Int) H.nc) (last := last) (by omega) (stQ H u H.nc (uv un u (S H.nc (A H.nc)))) (fun i hi => ⟨hok i hi, rfl⟩) (h.bf hun h8 hv (Nat.le_refl _)) 0 (lenE H (u : Int) H.nc) (by omega)
  rw [Nat.zero_add] at r1
  have hg : ∀ p : Nat → Bool, fm (lenE H (u : Int) H.nc) &&& maskN p (lenE H (u : Int) H.nc) = maskN p (lenE H (u : Int) H.nc) := fun p => (mask_sub _ _ _).2 fun j hj _ => by rw [fm_bit, decide_eq_true_iff]; exact hj
  refine ⟨_, _, h.fs hun h8 hv hlen H.nc (Nat.le_refl _), (aft_law _ _ _ h12 _ _).2 ⟨_, r1 _, ⟨_, .refl _, hg _⟩, ?_⟩⟩
  have hlast : decide (H.nc = H.nc) = true := decide_eq_true rfl
  rw [hlast]
  show decide (_ &&& _ = _) = true
  rw [decide_eq_true_iff]
  exact hg _
end
end Sx
end
section
/- How the trace of a device grows: plainly. Conditions: as each theorem says. -/
namespace Sx
open Go Go.Proofs
set_option maxRecDepth 100000
set_option pp.deepTerms true
set_option pp.maxSteps 10000000
section
variable {H H' : Hi} {A : Nat → Nat} {S : Nat → Nat → Nat → Int} {M : Nat → Nat} (h : Tr H A S M)
include h
theorem Tr.ale {e : Nat} (he : e ≤ H.nc + 1) : A e ≤ H.m := by rw [← h.am]; exact h.lem he (Nat.le_refl _)
/-- An operation more. -/
theorem Tr.add (o : HO) (hm : H'.m = H.m + 1) (hop : ∀ j, j < H.m → H'.op j = H.op j) (hopm : H'.op H.m = o) (hnc : H'.nc = H.nc) (hc : ∀ e, e < H.nc → H'.c e = H.c e) (hc2 : ∀ e, e < H.nc → H.c e ≤ o.b) (hb : ∀ j, j < H.m → (H.op j).b < o.b) (h0 : 0 ≤ o.b) (he : o.e = o.b + 1)
    (hk : 0 ≤ o.f ∧ (o.k = 0 ∨ o.k = 1 ∨ o.k = 2)) (nw : Nat → Int) (hw : o.k = 1 → nw = wrt o (S H.nc H.m)) (hnw : o.k ≠ 1 → nw = S H.nc H.m) (hr : o.k = 0 → ∀ q, q < o.n → o.v q = S H.nc H.m (o.f.toNat + q)) :
    Tr H' (fun e => if e = H.nc + 1 then H.m + 1 else A e) (fun e j => if e = H.nc ∧ j = H.m + 1 then nw else S e j) M := by
  have hA : ∀ e, e ≤ H.nc → (if e = H.nc + 1 then H.m + 1 else A e) = A e := fun e q => if_neg (by omega)
  have hA1 : (if H.nc + 1 = H.nc + 1 then H.m + 1 else A (H.nc + 1)) = H.m + 1 := if_pos rfl
  have hj : ∀ j (P : HO → Prop), j < H'.m → (j < H.m → P (H.op j)) → (j = H.m → P o) → P (H'.op j) := fun j P q g1 g2 => by
    rcases Nat.lt_or_ge j H.m with l | l
    · rw [hop j l]; exact g1 l
    · have : j = H.m := by omega
      rw [this, hopm]; exact g2 this
  have key : ∀ e j (P : HO → (Nat → Int) → (Nat → Int) → Prop), e ≤ H'.nc → (if e = H.nc + 1 then H.m + 1 else A e) ≤ j → j < (if e + 1 = H.nc + 1 then H.m + 1 else A (e + 1)) →
      (e ≤ H.nc → A e ≤ j → j < A (e + 1) → P (H.op j) (S e j) (S e (j + 1))) → P o (S H.nc H.m) nw → P (H'.op j) (if e = H.nc ∧ j = H.m + 1 then nw else S e j) (if e = H.nc ∧ j + 1 = H.m + 1 then nw else S e (j + 1)) := fun e j P q1 q2 q3 g1 g2 => by
    rw [hA e (by omega)] at q2
    by_cases c : e = H.nc
    · subst c
      rw [if_pos rfl] at q3
      rw [if_neg (by omega)]
      by_cases c2 : j = H.m
      · subst c2
        rw [hopm, if_pos ⟨rfl, rfl⟩]; exact g2
      · rw [if_neg (by omega), hop j (by omega)]
        exact g1 (by omega) q2 (by rw [h.am]; omega)
    · rw [if_neg (by omega)] at q3
      have := h.ale (e := e + 1) (by omega)
      rw [if_neg (fun g => c g.1), if_neg (fun g => c g.1), hop j (by omega)]
      exact g1 (by omega) q2 q3
  refine ⟨?_, ?_, ?_, ?_, ?_, ?_, ?_, ?_, ?_, ?_, ?_, ?_⟩
  · show (if 0 = H.nc + 1 then _ else _) = 0
    rw [if_neg (by omega)]; exact h.a0
  · rw [hnc, hm]; exact hA1
  · intro e q
    rw [hnc] at q
    show (if e = H.nc + 1 then _ else _) ≤ (if e + 1 = H.nc + 1 then _ else _)
    rw [hA e q]
    by_cases c : e = H.nc
    · rw [if_pos (by omega)]
      have := h.ale (e := e) (by omega)
      omega
    · rw [if_neg (by omega)]; exact h.mono e q
  · intro e q j q2
    rw [hnc] at q
    show _ ↔ (if e + 1 = H.nc + 1 then _ else _) ≤ j
    rw [hA (e + 1) (by omega), hc e q]
    exact hj j (fun x => H.c e ≤ x.b ↔ A (e + 1) ≤ j) q2 (fun l => h.ct e q j l) fun l => by
      have := h.ale (e := e + 1) (by omega)
      exact ⟨fun _ => by omega, fun _ => hc2 e q⟩
  · exact fun j q => hj j (fun x => 0 ≤ x.f ∧ (x.k = 0 ∨ x.k = 1 ∨ x.k = 2)) q (fun l => h.k j l) fun _ => hk
  · exact fun j q => hj j (fun x => 0 ≤ x.b ∧ x.e = x.b + 1) q (fun l => h.t j l) fun _ => ⟨h0, he⟩
  · intro i j q q2
    rw [hop i (by omega)]
    exact hj j (fun x => (H.op i).b < x.b) q2 (fun l => h.inc i j q l) fun _ => hb i (by omega)
  · exact fun e j q1 q2 q3 => key e j (fun x s s' => x.k = 1 → s' = wrt x s) q1 q2 q3 (fun a b c => h.w e j a b c) hw
  · exact fun e j q1 q2 q3 => key e j (fun x s s' => x.k ≠ 1 → s' = s) q1 q2 q3 (fun a b c => h.nw e j a b c) hnw
  · exact fun e j q1 q2 q3 => key e j (fun x s s' => x.k = 0 → ∀ q, q < x.n → x.v q = s (x.f.toNat + q)) q1 q2 q3 (fun a b c => h.r e j a b c) hr
  · show (if 0 = H.nc ∧ 0 = H.m + 1 then nw else S 0 0) = _
    rw [if_neg (by omega)]; exact h.z
  · intro e q
    rw [hnc] at q
    obtain ⟨c1, c2, c3, c4⟩ := h.cut e q
    have hle := h.ale (e := e + 1) (by omega)
    show (if e = H.nc + 1 then _ else _) ≤ M e ∧ M e ≤ (if e + 1 = H.nc + 1 then _ else _) ∧ (if e + 1 = H.nc ∧ (if e + 1 = H.nc + 1 then H.m + 1 else A (e + 1)) = H.m + 1 then nw else S (e + 1) (if e + 1 = H.nc + 1 then H.m + 1 else A (e + 1))) = (if e = H.nc ∧ M e = H.m + 1 then nw else S e (M e)) ∧ ∀ j, M e ≤ j → j < (if e + 1 = H.nc + 1 then _ else _) → _
    rw [hA e (by omega), hA (e + 1) (by omega), if_neg (by omega), if_neg (by omega)]
    refine ⟨c1, c2, c3, fun j j1 j2 => ?_⟩
    rw [hop j (by omega)]
    intro k
    obtain ⟨k1, k2⟩ := c4 j j1 j2 k
    refine ⟨k1, fun f f1 f2 => ?_⟩
    rw [hop f (by omega)]
    exact k2 f f1 f2
/-- A cut more. -/
theorem Tr.addCut (hm : H'.m = H.m) (hop : ∀ j, j < H.m → H'.op j = H.op j) (hnc : H'.nc = H.nc + 1) (hc : ∀ e, e < H.nc → H'.c e = H.c e) (hct : ∀ j, j < H.m → (H.op j).b < H'.c H.nc) (nw : Nat → Int) (Mx : Nat) (m1 : A H.nc ≤ Mx) (m2 : Mx ≤ H.m) (hnw : nw = S H.nc Mx)
    (hd : ∀ j, Mx ≤ j → j < H.m → (H.op j).k = 1 → (H.op j).fo = false ∧ ∀ f, A H.nc ≤ f → f < H.m → (H.op f).k = 2 → ¬ (H.op j).e < (H.op f).b) :
    Tr H' (fun e => if e = H.nc + 2 then H.m else A e) (fun e j => if e = H.nc + 1 then nw else S e j) (fun e => if e = H.nc then Mx else M e) := by
  have hA : ∀ e, e ≤ H.nc + 1 → (if e = H.nc + 2 then H.m else A e) = A e := fun e q => if_neg (by omega)
  have key : ∀ e j (P : HO → (Nat → Int) → (Nat → Int) → Prop), e ≤ H'.nc → (if e = H.nc + 2 then H.m else A e) ≤ j → j < (if e + 1 = H.nc + 2 then H.m else A (e + 1)) →
      (e ≤ H.nc → A e ≤ j → j < A (e + 1) → P (H.op j) (S e j) (S e (j + 1))) → P (H'.op j) (if e = H.nc + 1 then nw else S e j) (if e = H.nc + 1 then nw else S e (j + 1)) := fun e j P q1 q2 q3 g1 => by
    rw [hA e (by omega)] at q2
    by_cases c : e = H.nc + 1
    · subst c
      rw [if_pos rfl] at q3
      have := h.am
      omega
    · rw [if_neg (by omega)] at q3
      have := h.ale (e := e + 1) (by omega)
      rw [if_neg c, if_neg c, hop j (by omega)]
      exact g1 (by omega) q2 q3
  have hj : ∀ j (P : HO → Prop), j < H'.m → (j < H.m → P (H.op j)) → P (H'.op j) := fun j P q g1 => by
    rw [hop j (by omega)]; exact g1 (by omega)
  refine ⟨?_, ?_, ?_, ?_, ?_, ?_, ?_, ?_, ?_, ?_, ?_, ?_⟩
  · show (if 0 = H.nc + 2 then _ else _) = 0
    rw [if_neg (by omega)]; exact h.a0
  · show (if H'.nc + 1 = H.nc + 2 then _ else _) = _
    rw [hnc, hm, if_pos rfl]
  · intro e q
    rw [hnc] at q
    show (if e = H.nc + 2 then _ else _) ≤ (if e + 1 = H.nc + 2 then _ else _)
    rw [hA e (by omega)]
    by_cases c : e = H.nc + 1
    · rw [if_pos (by omega)]; exact h.ale (by omega)
    · rw [if_neg (by omega)]; exact h.mono e (by omega)
  · intro e q j q2
    rw [hnc] at q
    show _ ↔ (if e + 1 = H.nc + 2 then _ else _) ≤ j
    rw [hA (e + 1) (by omega)]
    rw [hop j (by omega)]
    rcases Nat.lt_or_ge e H.nc with l | l
    · rw [hc e l]; exact h.ct e l j (by omega)
    · have : e = H.nc := by omega
      subst this
      have := hct j (by omega)
      rw [h.am]
      constructor
      · intro w; omega
      · intro w; omega
  · exact fun j q => hj j (fun x => 0 ≤ x.f ∧ (x.k = 0 ∨ x.k = 1 ∨ x.k = 2)) q fun l => h.k j l
  · exact fun j q => hj j (fun x => 0 ≤ x.b ∧ x.e = x.b + 1) q fun l => h.t j l
  · intro i j q q2
    rw [hop i (by omega)]
    exact hj j (fun x => (H.op i).b < x.b) q2 fun l => h.inc i j q l
  · exact fun e j q1 q2 q3 => key e j (fun x s s' => x.k = 1 → s' = wrt x s) q1 q2 q3 fun a b c => h.w e j a b c
  · exact fun e j q1 q2 q3 => key e j (fun x s s' => x.k ≠ 1 → s' = s) q1 q2 q3 fun a b c => h.nw e j a b c
  · exact fun e j q1 q2 q3 => key e j (fun x s s' => x.k = 0 → ∀ q, q < x.n → x.v q = s (x.f.toNat + q)) q1 q2 q3 fun a b c => h.r e j a b c
  · show (if 0 = H.nc + 1 then nw else S 0 0) = _
    rw [if_neg (by omega)]; exact h.z
  · intro e q
    rw [hnc] at q
    show (if e = H.nc + 2 then _ else _) ≤ (if e = H.nc then Mx else M e) ∧ (if e = H.nc then Mx else M e) ≤ (if e + 1 = H.nc + 2 then _ else _) ∧ (if e + 1 = H.nc + 1 then nw else S (e + 1) (if e + 1 = H.nc + 2 then H.m else A (e + 1))) = (if e = H.nc + 1 then nw else S e (if e = H.nc then Mx else M e)) ∧ ∀ j, (if e = H.nc then Mx else M e) ≤ j → j < (if e + 1 = H.nc + 2 then _ else _) → _
    rw [hA e (by omega), hA (e + 1) (by omega), if_neg (show ¬ e = H.nc + 1 by omega)]
    have hle := h.ale (e := e + 1) (by omega)
    have main : ∀ (X : Nat), (∀ j, X ≤ j → j < A (e + 1) → (H.op j).k = 1 → (H.op j).fo = false ∧ ∀ f, A e ≤ f → f < A (e + 1) → (H.op f).k = 2 → ¬ (H.op j).e < (H.op f).b) → ∀ j, X ≤ j → j < A (e + 1) → (H'.op j).k = 1 → (H'.op j).fo = false ∧ ∀ f, A e ≤ f → f < A (e + 1) → (H'.op f).k = 2 → ¬ (H'.op j).e < (H'.op f).b := fun X g j j1 j2 => by
      rw [hop j (by omega)]
      intro k
      obtain ⟨k1, k2⟩ := g j j1 j2 k
      refine ⟨k1, fun f f1 f2 => ?_⟩
      rw [hop f (by omega)]
      exact k2 f f1 f2
    by_cases c : e = H.nc
    · subst c
      rw [if_pos rfl, if_pos rfl]
      refine ⟨m1, by rw [h.am]; exact m2, hnw, main _ ?_⟩
      rw [h.am]; exact hd
    · rw [if_neg c, if_neg (by omega)]
      obtain ⟨c1, c2, c3, c4⟩ := h.cut e (by omega)
      exact ⟨c1, c2, c3, main _ c4⟩
end
end Sx
end
