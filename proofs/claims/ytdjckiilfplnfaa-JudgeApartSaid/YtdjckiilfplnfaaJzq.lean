/- A history with some of its operations only: plainly. Conditions: as each theorem says. -/
import Derived.Test.YtdjckiilfplnfaaJzp
set_option linter.unusedSimpArgs false
set_option linter.unusedVariables false
namespace Sx
open Go Go.Proofs
def keptL (H : Hi) (kp : Nat → Bool) : List Nat := (List.range H.m).filter kp
/-- The operations that are kept. -/
def subH (H : Hi) (kp : Nat → Bool) : Hi := ⟨H.unit, H.blocks, (keptL H kp).length, fun j => H.op ((keptL H kp).getD j 0), H.nc, H.c⟩
def gS (H : Hi) (kp : Nat → Bool) (j : Nat) : Nat := (keptL H kp).getD j 0
theorem map_range_getD (L : List Nat) : (List.range L.length).map (fun j => L.getD j 0) = L := by
  apply List.ext_getElem
  · simp
  · intro i h1 h2
    rw [List.getElem_map, List.getElem_range, List.getD_eq_getElem?_getD, List.getElem?_eq_getElem h2]; rfl
theorem map_filter_range (L : List Nat) (p : Nat → Bool) : ((List.range L.length).filter fun j => p (L.getD j 0)).map (fun j => L.getD j 0) = L.filter p := by
  conv => rhs; rw [← map_range_getD L]
  rw [List.filter_map]
  rfl
theorem gS_lt {H : Hi} {kp : Nat → Bool} {j : Nat} (hj : j < (keptL H kp).length) : gS H kp j < H.m ∧ kp (gS H kp j) = true := by
  have : gS H kp j ∈ keptL H kp := by
    unfold gS
    rw [List.getD_eq_getElem?_getD, List.getElem?_eq_getElem hj]; exact List.getElem_mem hj
  obtain ⟨h1, h2⟩ := List.mem_filter.1 this
  exact ⟨List.mem_range.1 h1, h2⟩
theorem sub_ops (H : Hi) (kp : Nat → Bool) (e : Nat) : (opsE (subH H kp) e).map (gS H kp) = (opsE H e).filter kp := by
  have h1 : opsE (subH H kp) e = (List.range (keptL H kp).length).filter fun j => (fun i => ep H (H.op i).b == e) ((keptL H kp).getD j 0) := rfl
  rw [h1]
  have := map_filter_range (keptL H kp) fun i => ep H (H.op i).b == e
  unfold gS
  rw [this]
  unfold keptL opsE EI
  rw [List.filter_filter, List.filter_filter]
  congr 1
  funext i
  rw [Bool.and_comm]
theorem filter_map_comm {α β : Type} (l : List α) (g : α → β) (p : β → Bool) : (l.filter fun a => p (g a)).map g = (l.map g).filter p := by
  rw [List.filter_map]; rfl
theorem sub_PL (H : Hi) (kp : Nat → Bool) (u : Int) (e : Nat) : (PL (subH H kp) u (opsE (subH H kp) e)).map (gS H kp) = (PL H u (opsE H e)).filter kp := by
  have h1 : PL (subH H kp) u (opsE (subH H kp) e) = (opsE (subH H kp) e).filter fun j => isP H u (gS H kp j) := rfl
  rw [h1, filter_map_comm, sub_ops]
  unfold PL
  rw [List.filter_filter, List.filter_filter]
  congr 1
  funext i
  rw [Bool.and_comm]
theorem sub_anyFl (H : Hi) (kp : Nat → Bool) (x : Int) (e : Nat) (h : ∀ i, i < H.m → (H.op i).k = 2 → kp i = true) : anyFl (subH H kp) x (opsE (subH H kp) e) = anyFl H x (opsE H e) := by
  have h1 : anyFl (subH H kp) x (opsE (subH H kp) e) = ((opsE (subH H kp) e).map (gS H kp)).any fun i => decide (Fl H x i) := by
    rw [List.any_map]; rfl
  rw [h1, sub_ops]
  unfold anyFl
  rw [Bool.eq_iff_iff, List.any_eq_true, List.any_eq_true]
  constructor
  · rintro ⟨i, hi, q⟩
    exact ⟨i, (List.mem_filter.1 hi).1, q⟩
  · rintro ⟨i, hi, q⟩
    refine ⟨i, List.mem_filter.2 ⟨hi, ?_⟩, q⟩
    rw [decide_eq_true_iff] at q
    exact h i (EI_lt hi) q.1
theorem sub_ptOf (H : Hi) (kp : Nat → Bool) (u : Int) (e : Nat) (h : ∀ i, i < H.m → (H.op i).k = 2 → kp i = true) (j : Nat) : ptOf (subH H kp) u (opsE (subH H kp) e) j = ptOf H u (opsE H e) (gS H kp j) := by
  have h1 := sub_anyFl H kp (H.op (gS H kp j)).e e h
  have h2 : ptOf (subH H kp) u (opsE (subH H kp) e) j = ⟨decide ((H.op (gS H kp j)).k = 1), decide (0 ≤ (H.op (gS H kp j)).e), decide ((H.op (gS H kp j)).k = 1) && decide (0 ≤ (H.op (gS H kp j)).e) && ((H.op (gS H kp j)).fo || anyFl (subH H kp) (H.op (gS H kp j)).e (opsE (subH H kp) e)), (H.op (gS H kp j)).b, (H.op (gS H kp j)).e, pA H u (gS H kp j) - u * H.unit, (pB H u (gS H kp j) - pA H u (gS H kp j)).toNat, fun q => (H.op (gS H kp j)).v ((pA H u (gS H kp j) - (H.op (gS H kp j)).f).toNat + q)⟩ := rfl
  rw [h2, h1]
  rfl
theorem sub_ptE (H : Hi) (kp : Nat → Bool) (u : Int) (e : Nat) (h : ∀ i, i < H.m → (H.op i).k = 2 → kp i = true) (j : Nat) (hj : j < lenE (subH H kp) u e) : ptE (subH H kp) u e j = ptOf H u (opsE H e) (((PL H u (opsE H e)).filter kp).getD j 0) := by
  have h1 : ptE (subH H kp) u e j = ptOf (subH H kp) u (opsE (subH H kp) e) ((PL (subH H kp) u (opsE (subH H kp) e)).getD j 0) := rfl
  rw [h1, sub_ptOf H kp u e h, ← sub_PL]
  congr 1
  unfold lenE at hj
  rw [List.getD_eq_getElem?_getD, List.getD_eq_getElem?_getD, List.getElem?_map, List.getElem?_eq_getElem hj]
  rfl
theorem sub_lenE (H : Hi) (kp : Nat → Bool) (u : Int) (e : Nat) : lenE (subH H kp) u e = ((PL H u (opsE H e)).filter kp).length := by
  rw [← sub_PL, List.length_map]; rfl
theorem sub_valid {H : Hi} (hv : VHi H) (kp : Nat → Bool) : VHi (subH H kp) :=
  ⟨hv.u1, hv.u8, hv.b1, hv.b2, hv.mod, hv.c0, hv.cs, fun j hj => hv.ops (gS H kp j) (gS_lt hj).1⟩
/-- Where all parts of a unit are kept, its vectors are the same. -/
theorem sub_same {H : Hi} (hv : VHi H) (kp : Nat → Bool) (u : Int) (hlen : ∀ e, e ≤ H.nc → lenE H u e ≤ 12) (h : ∀ i, i < H.m → (H.op i).k = 2 → kp i = true) (h2 : ∀ i, i < H.m → isP H u i = true → kp i = true) :
    (∀ e, lenE (subH H kp) u e = lenE H u e) ∧ ∀ e, e ≤ H.nc + 1 → ∀ v, FS (subH H kp) u e v ↔ FS H u e v := by
  have hPL : ∀ e, (PL H u (opsE H e)).filter kp = PL H u (opsE H e) := fun e => List.filter_eq_self.2 fun i hi => h2 i (EI_lt (List.mem_filter.1 hi).1) (List.mem_filter.1 hi).2
  have hl : ∀ e, lenE (subH H kp) u e = lenE H u e := fun e => by rw [sub_lenE, hPL]; rfl
  have hpt : ∀ e j, j < lenE H u e → ptE (subH H kp) u e j = ptE H u e j := fun e j hj => by
    rw [sub_ptE H kp u e h j (by rw [hl]; exact hj), hPL]; rfl
  refine ⟨hl, fun e he v => ⟨?_, ?_⟩⟩
  · refine fs_mono (H := subH H kp) (H' := H) rfl (fun e he => by rw [hl]; exact hlen e he) hlen (fun e he => ⟨id, ?_⟩) e he v
    rw [hl]
    exact sim_id fun j hj => (hpt e j hj).symm
  · refine fs_mono (H := H) (H' := subH H kp) rfl hlen (fun e he => by rw [hl]; exact hlen e he) (fun e he => ⟨id, ?_⟩) e he v
    rw [hl]
    exact sim_id fun j hj => hpt e j hj
end Sx
