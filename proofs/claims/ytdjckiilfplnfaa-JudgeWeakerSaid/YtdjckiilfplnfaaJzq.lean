/- A history with some of its operations only: plainly. Conditions: as each theorem says. -/
import Derived.Test.YtdjckiilfplnfaaJzp
set_option linter.unusedSimpArgs false
set_option linter.unusedVariables false
namespace Sx
open Go Go.Proofs
def keptL (H : Hi) (kp : Nat → Bool) : List Nat := (List.range H.m).filter kp
/-- The operations that are kept. -/
def subH (H : Hi) (kp : Nat → Bool) : Hi := ⟨H.unit, H.blocks, (keptL H kp).length, fun j => H.op ((keptL H kp).getD j 0), H.nc, H.c⟩
def gS (H : Hi) (kp : Nat → Bool) (j : Nat) : Nat := (keptL H kp).getD j 0
theorem map_range_getD (L : List Nat) : (List.range L.length).map (fun j => L.getD j 0) = L := by
  apply List.ext_getElem
  · simp
  · intro i h1 h2
    rw [List.getElem_map, List.getElem_range, List.getD_eq_getElem?_getD, List.getElem?_eq_getElem h2]; rfl
theorem map_filter_range (L : List Nat) (p : Nat → Bool) : ((List.range L.length).filter fun j => p (L.getD j 0)).map (fun j => L.getD j 0) = L.filter p := by
  conv => rhs; rw [← map_range_getD L]
  rw [List.filter_map]
  rfl
theorem gS_lt {H : Hi} {kp : Nat → Bool} {j : Nat} (hj : j < (keptL H kp).length) : gS H kp j < H.m ∧ kp (gS H kp j) = true := by
  have : gS H kp j ∈ keptL H kp := by
    unfold gS
    rw [List.getD_eq_getElem?_getD, List.getElem?_eq_getElem hj]; exact List.getElem_mem hj
  obtain ⟨h1, h2⟩ := List.mem_filter.1 this
  exact ⟨List.mem_range.1 h1, h2⟩
theorem sub_ops (H : Hi) (kp : Nat → Bool) (e : Nat) : (opsE (subH H kp) e).map (gS H kp) = (opsE H e).filter kp := by
  have h1 : opsE (subH H kp) e = (List.range (keptL H kp).length).filter fun j => (fun i => ep H (H.op i).b == e) ((keptL H kp).getD j 0) := rfl
  rw [h1]
  have := map_filter_range (keptL H kp) fun i => ep H (H.op i).b == e
  unfold gS
  rw [this]
  unfold keptL opsE EI
  rw [List.filter_filter, List.filter_filter]
  congr 1
  funext i
  rw [Bool.and_comm]
theorem filter_map_comm {α β : Type} (l : List α) (g : α → β) (p : β → Bool) : (l.filter fun a => p (g a)).map g = (l.map g).filter p := by
  rw [List.filter_map]; rfl
theorem sub_PL (H : Hi) (kp : Nat → Bool) (u : Int) (e : Nat) : (PL (subH H kp) u (opsE (subH H kp) e)).map (gS H kp) = (PL H u (opsE H e)).filter kp := by
  have h1 : PL (subH H kp) u (opsE (subH H kp) e) = (opsE (subH H kp) e).filter fun j => isP H u (gS H kp j) := rfl
  rw [h1, filter_map_comm, sub_ops]
  unfold PL
  rw [List.filter_filter, List.filter_filter]
  congr 1
  funext i
  rw [Bool.and_comm]
theorem sub_anyFl (H : Hi) (kp : Nat → Bool) (x : Int) (e : Nat) (h : ∀ i, i < H.m → (H.op i).k = 2 → kp i = true) : anyFl (subH H kp) x (opsE (subH H kp) e) = anyFl H x (opsE H e) := by
  have h1 : anyFl (subH H kp) x (opsE (subH H kp) e) = ((opsE (subH H kp) e).map (gS H kp)).any fun i => decide (Fl H x i) := by
    rw [List.any_map]; rfl
  rw [h1, sub_ops]
  unfold anyFl
  rw [Bool.eq_iff_iff, List.any_eq_true, List.any_eq_true]
  constructor
  · rintro ⟨i, hi, q⟩
    exact ⟨i, (List.mem_filter.1 hi).1, q⟩
  · rintro ⟨i, hi, q⟩
    refine ⟨i, List.mem_filter.2 ⟨hi, ?_⟩, q⟩
    rw [decide_eq_true_iff] at q
    exact h i (EI_lt hi) q.1
theorem sub_ptOf (H : Hi) (kp : Nat → Bool) (u : Int) (e : Nat) (h : ∀ i, i < H.m → (H.op i).k = 2 → kp i = true) (j : Nat) : ptOf (subH H kp) u (opsE (subH H kp) e) j = ptOf H u (opsE H e) (gS H kp j) := by
  have h1 := sub_anyFl H kp (H.op (gS H kp j)).e e h
  have h2 : ptOf (subH H kp) u (opsE (subH H kp) e) j = ⟨decide ((H.op (gS H kp j)).k = 1), decide (0 ≤ (H.op (gS H kp j)).e), decide ((H.op (gS H kp j)).k = 1) && decide (0 ≤ (H.op (gS H kp j)).e) && ((H.op (gS H kp j)).fo || anyFl (subH H kp) (H.op (gS H kp j)).e (opsE (subH H kp) e)), (H.op (gS H kp j)).b, (H.op (gS H kp j)).e, pA H u (gS H kp j) - u * H.unit, (pB H u (gS H kp j) - pA H u (gS H kp j)).toNat, fun q => (H.op (gS H kp j)).v ((pA H u (gS H kp j) - (H.op (gS H kp j)).f).toNat + q)⟩ := rfl
  rw [h2, h1]
  rfl
theorem sub_ptE (H : Hi) (kp : Nat → Bool) (u : Int) (e : Nat) (h : ∀ i, i < H.m → (H.op i).k = 2 → kp i = true) (j : Nat) (hj : j < lenE (subH H kp) u e) : ptE (subH H kp) u e j = ptOf H u (opsE H e) (((PL H u (opsE H e)).filter kp).getD j 0) := by
  have h1 : ptE (subH H kp) u e j = ptOf (subH H kp) u (opsE (subH H kp) e) ((PL (subH H kp) u (opsE (subH H kp) e)).getD j 0) := rfl
  rw [h1, sub_ptOf H kp u e h, ← sub_PL]
  congr 1
  unfold lenE at hj
  rw [List.getD_eq_getElem?_getD, List.getD_eq_getElem?_getD, List.getElem?_map, List.getElem?_eq_getElem hj]
  rfl
theorem sub_lenE (H : Hi) (kp : Nat → Bool) (u : Int) (e : Nat) : lenE (subH H kp) u e = ((PL H u (opsE H e)).filter kp).length := by
  rw [← sub_PL, List.length_map]; rfl
theorem sub_valid {H : Hi} (hv : VHi H) (kp : Nat → Bool) : VHi (subH H kp) :=
  ⟨hv.u1, hv.u8, hv.b1, hv.b2, hv.mod, hv.c0, hv.cs, fun j hj => hv.ops (gS H kp j) (gS_lt hj).1⟩
/-- The places of what is kept. -/
theorem filter_place (p : Nat → Bool) : ∀ (l : List Nat), ∃ φ : Nat → Nat, (∀ j, j < (l.filter p).length → φ j < l.length ∧ l.getD (φ j) 0 = (l.filter p).getD j 0) ∧ (∀ j k, j < (l.filter p).length → k < (l.filter p).length → φ j = φ k → j = k) ∧ ∀ i, i < l.length → p (l.getD i 0) = true → ∃ j, j < (l.filter p).length ∧ φ j = i
  | [] => ⟨id, fun j hj => absurd hj (Nat.not_lt_zero _), fun j _ hj => absurd hj (Nat.not_lt_zero _), fun i hi => absurd hi (Nat.not_lt_zero _)⟩
  | a :: l => by
    obtain ⟨φ, h1, h2, h3⟩ := filter_place p l
    cases hp : p a with
    | true =>
      rw [List.filter_cons_of_pos hp]
      refine ⟨fun j => match j with | 0 => 0 | j + 1 => φ j + 1, fun j hj => ?_, fun j k hj hk e => ?_, fun i hi q => ?_⟩
      · cases j with
        | zero => exact ⟨Nat.succ_pos _, rfl⟩
        | succ j =>
          have := h1 j (Nat.lt_of_succ_lt_succ hj)
          exact ⟨Nat.succ_lt_succ this.1, this.2⟩
      · cases j with
        | zero => cases k with
          | zero => rfl
          | succ k => exact absurd e (by simp)
        | succ j => cases k with
          | zero => exact absurd e (by simp)
          | succ k => rw [h2 j k (Nat.lt_of_succ_lt_succ hj) (Nat.lt_of_succ_lt_succ hk) (Nat.succ.inj e)]
      · cases i with
        | zero => exact ⟨0, Nat.succ_pos _, rfl⟩
        | succ i =>
          obtain ⟨j, g1, g2⟩ := h3 i (Nat.lt_of_succ_lt_succ hi) q
          exact ⟨j + 1, Nat.succ_lt_succ g1, by show φ j + 1 = i + 1; rw [g2]⟩
    | false =>
      rw [List.filter_cons_of_neg (by rw [hp]; exact Bool.false_ne_true)]
      refine ⟨fun j => φ j + 1, fun j hj => ⟨Nat.succ_lt_succ (h1 j hj).1, (h1 j hj).2⟩, fun j k hj hk e => h2 j k hj hk (Nat.succ.inj e), fun i hi q => ?_⟩
      cases i with
      | zero =>
        have q : p a = true := q
        rw [hp] at q; cases q
      | succ i =>
        obtain ⟨j, g1, g2⟩ := h3 i (Nat.lt_of_succ_lt_succ hi) q
        exact ⟨j, g1, by show φ j + 1 = i + 1; rw [g2]⟩
/-- What is left out are reads at most. -/
theorem sub_sim (H : Hi) (kp : Nat → Bool) (u : Int) (e : Nat) (h : ∀ i, i < H.m → kp i = false → ¬ (H.op i).k = 1 ∧ ¬ (H.op i).k = 2) : ∃ φ, Sim (ptE H u e) (lenE H u e) (ptE (subH H kp) u e) (lenE (subH H kp) u e) φ := by
  have h2 : ∀ i, i < H.m → (H.op i).k = 2 → kp i = true := fun i hi q => by
    cases e : kp i with
    | true => rfl
    | false => exact absurd q (h i hi e).2
  obtain ⟨φ, g1, g2, g3⟩ := filter_place kp (PL H u (opsE H e))
  have hl := sub_lenE H kp u e
  have hpt : ∀ j, j < lenE (subH H kp) u e → ptE (subH H kp) u e j = ptE H u e (φ j) := fun j hj => by
    rw [sub_ptE H kp u e h2 j hj, ← (g1 j (by rw [← hl]; exact hj)).2]
    rfl
  refine ⟨φ, fun j hj => (g1 j (by rw [← hl]; exact hj)).1, fun j k hj hk q => g2 j k (by rw [← hl]; exact hj) (by rw [← hl]; exact hk) q, fun i hi => ?_, fun j hj l => by rw [hpt j hj]; exact ⟨rfl, rfl⟩, fun j hj => by rw [hpt j hj], fun j hj q => by rw [hpt j hj] at q; exact q, fun j k hj hk q => by unfold pbf at q ⊢; rw [hpt j hj, hpt k hk] at q; exact q⟩
  cases hp : kp ((PL H u (opsE H e)).getD i 0) with
  | true =>
    obtain ⟨j, q1, q2⟩ := g3 i hi hp
    exact .inl ⟨j, by rw [hl]; exact q1, q2⟩
  | false =>
    right
    have hm : (PL H u (opsE H e)).getD i 0 ∈ PL H u (opsE H e) := by
      unfold lenE at hi
      rw [List.getD_eq_getElem?_getD, List.getElem?_eq_getElem hi]; exact List.getElem_mem hi
    have := (h _ (EI_lt (List.mem_filter.1 hm).1) hp).1
    show decide ((H.op ((PL H u (opsE H e)).getD i 0)).k = 1) = false
    rw [decide_eq_false this]
end Sx
