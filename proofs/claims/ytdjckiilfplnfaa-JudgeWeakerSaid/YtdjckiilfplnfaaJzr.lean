/- A history one of whose operations begins earlier or ends later: plainly. Conditions: as each theorem says. -/
import Derived.Test.YtdjckiilfplnfaaJzq
set_option linter.unusedSimpArgs false
set_option linter.unusedVariables false
namespace Sx
open Go Go.Proofs
/-- One operation is another. -/
def modH (H : Hi) (a : Nat) (o : HO) : Hi := ⟨H.unit, H.blocks, H.m, fun i => if i = a then o else H.op i, H.nc, H.c⟩
structure Wk (H : Hi) (a : Nat) (o : HO) : Prop where
  k : o.k = (H.op a).k
  f : o.f = (H.op a).f
  n : o.n = (H.op a).n
  v : o.v = (H.op a).v
  fo : o.fo = (H.op a).fo
  b : o.b ≤ (H.op a).b
  e : (H.op a).e ≤ o.e
  d : 0 ≤ o.e ↔ 0 ≤ (H.op a).e
  ep : ep H o.b = ep H (H.op a).b
section
variable {H : Hi} {a : Nat} {o : HO}
theorem mod_at (i : Nat) (P : HO → Prop) (h1 : i = a → P o) (h2 : i ≠ a → P (H.op i)) : P ((modH H a o).op i) := by
  show P (if i = a then o else H.op i)
  by_cases e : i = a
  · rw [if_pos e]; exact h1 e
  · rw [if_neg e]; exact h2 e
theorem Wk.kk (h : Wk H a o) (i : Nat) : ((modH H a o).op i).k = (H.op i).k := mod_at i (fun x => x.k = (H.op i).k) (fun e => by rw [e]; exact h.k) fun _ => rfl
theorem Wk.ff (h : Wk H a o) (i : Nat) : ((modH H a o).op i).f = (H.op i).f := mod_at i (fun x => x.f = (H.op i).f) (fun e => by rw [e]; exact h.f) fun _ => rfl
theorem Wk.nn (h : Wk H a o) (i : Nat) : ((modH H a o).op i).n = (H.op i).n := mod_at i (fun x => x.n = (H.op i).n) (fun e => by rw [e]; exact h.n) fun _ => rfl
theorem Wk.vv (h : Wk H a o) (i : Nat) : ((modH H a o).op i).v = (H.op i).v := mod_at i (fun x => x.v = (H.op i).v) (fun e => by rw [e]; exact h.v) fun _ => rfl
theorem Wk.ffo (h : Wk H a o) (i : Nat) : ((modH H a o).op i).fo = (H.op i).fo := mod_at i (fun x => x.fo = (H.op i).fo) (fun e => by rw [e]; exact h.fo) fun _ => rfl
theorem Wk.bb (h : Wk H a o) (i : Nat) : ((modH H a o).op i).b ≤ (H.op i).b := mod_at i (fun x => x.b ≤ (H.op i).b) (fun e => by rw [e]; exact h.b) fun _ => Int.le_refl _
theorem Wk.ee (h : Wk H a o) (i : Nat) : (H.op i).e ≤ ((modH H a o).op i).e := mod_at i (fun x => (H.op i).e ≤ x.e) (fun e => by rw [e]; exact h.e) fun _ => Int.le_refl _
theorem Wk.dd (h : Wk H a o) (i : Nat) : 0 ≤ ((modH H a o).op i).e ↔ 0 ≤ (H.op i).e := mod_at i (fun x => 0 ≤ x.e ↔ 0 ≤ (H.op i).e) (fun e => by rw [e]; exact h.d) fun _ => Iff.rfl
theorem Wk.epp (h : Wk H a o) (i : Nat) : Sx.ep (modH H a o) ((modH H a o).op i).b = Sx.ep H (H.op i).b := mod_at i (fun x => Sx.ep H x.b = Sx.ep H (H.op i).b) (fun e => by rw [e]; exact h.ep) fun _ => rfl
theorem Wk.ops (h : Wk H a o) (e : Nat) : opsE (modH H a o) e = opsE H e := by
  unfold opsE EI
  show (List.range H.m).filter _ = _
  congr 1
  funext i
  rw [h.epp i]
theorem Wk.pA (h : Wk H a o) (u : Int) (i : Nat) : Sx.pA (modH H a o) u i = Sx.pA H u i := by unfold Sx.pA; rw [h.ff i]; rfl
theorem Wk.pB (h : Wk H a o) (u : Int) (i : Nat) : Sx.pB (modH H a o) u i = Sx.pB H u i := by unfold Sx.pB; rw [h.ff i, h.nn i]; rfl
theorem Wk.isP (h : Wk H a o) (u : Int) (i : Nat) : Sx.isP (modH H a o) u i = Sx.isP H u i := by unfold Sx.isP; rw [h.kk i, h.pA, h.pB]
theorem Wk.PL (h : Wk H a o) (u : Int) (e : Nat) : Sx.PL (modH H a o) u (opsE (modH H a o) e) = Sx.PL H u (opsE H e) := by
  rw [h.ops]
  unfold Sx.PL
  congr 1
  funext i
  exact h.isP u i
theorem Wk.lenE (h : Wk H a o) (u : Int) (e : Nat) : Sx.lenE (modH H a o) u e = Sx.lenE H u e := by unfold Sx.lenE; rw [h.PL]
theorem Wk.fl (h : Wk H a o) {x y : Int} (hxy : x ≤ y) (l : List Nat) (q : anyFl (modH H a o) y l = true) : anyFl H x l = true := by
  unfold anyFl at q ⊢
  rw [List.any_eq_true] at q ⊢
  obtain ⟨i, hi, g⟩ := q
  refine ⟨i, hi, ?_⟩
  rw [decide_eq_true_iff] at g ⊢
  obtain ⟨g1, g2, g3⟩ := g
  have := h.bb i
  exact ⟨(h.kk i).symm.trans g1, (h.dd i).1 g2, by omega⟩
theorem Wk.sim (h : Wk H a o) (u : Int) (e : Nat) : ∃ φ, Sim (ptE H u e) (Sx.lenE H u e) (ptE (modH H a o) u e) (Sx.lenE (modH H a o) u e) φ := by
  refine ⟨id, ?_⟩
  rw [h.lenE]
  have key : ∀ j, ∃ i, ptE H u e j = ptOf H u (opsE H e) i ∧ ptE (modH H a o) u e j = ptOf (modH H a o) u (opsE H e) i := fun j => ⟨(Sx.PL H u (opsE H e)).getD j 0, rfl, by
    have : ptE (modH H a o) u e j = ptOf (modH H a o) u (opsE (modH H a o) e) ((Sx.PL (modH H a o) u (opsE (modH H a o) e)).getD j 0) := rfl
    rw [this, h.PL, h.ops]⟩
  have hw : ∀ i, (ptOf (modH H a o) u (opsE H e) i).w = (ptOf H u (opsE H e) i).w := fun i => by show decide (_ = 1) = decide (_ = 1); rw [h.kk i]
  have hd : ∀ i, (ptOf (modH H a o) u (opsE H e) i).d = (ptOf H u (opsE H e) i).d := fun i => decide_eq_decide.2 (h.dd i)
  have hf : ∀ i, (ptOf (modH H a o) u (opsE H e) i).f = (ptOf H u (opsE H e) i).f := fun i => by show Sx.pA _ _ _ - _ = Sx.pA _ _ _ - _; rw [h.pA]; rfl
  have hn : ∀ i, (ptOf (modH H a o) u (opsE H e) i).n = (ptOf H u (opsE H e) i).n := fun i => by show (Sx.pB _ _ _ - Sx.pA _ _ _).toNat = _; rw [h.pA, h.pB]; rfl
  have hv : ∀ i, (ptOf (modH H a o) u (opsE H e) i).v = (ptOf H u (opsE H e) i).v := fun i => by
    funext q
    show ((modH H a o).op i).v ((Sx.pA (modH H a o) u i - ((modH H a o).op i).f).toNat + q) = (H.op i).v ((Sx.pA H u i - (H.op i).f).toNat + q)
    rw [h.vv, h.pA, h.ff]
  refine ⟨fun _ q => q, fun _ _ _ _ q => q, fun i hi => .inl ⟨i, hi, rfl⟩, fun j _ l => ?_, fun j _ => ?_, fun j _ => ?_, fun j k _ _ => ?_⟩
  · obtain ⟨i, e1, e2⟩ := key j
    show okA (ptE (modH H a o) u e j) l = okA (ptE H u e j) l ∧ apL (ptE (modH H a o) u e j) l = apL (ptE H u e j) l
    rw [e1, e2]
    unfold okA apL apF
    rw [hw, hf, hn, hv]
    exact ⟨rfl, rfl⟩
  · obtain ⟨i, e1, e2⟩ := key j
    show (ptE (modH H a o) u e j).d = (ptE H u e j).d
    rw [e1, e2]; exact hd i
  · obtain ⟨i, e1, e2⟩ := key j
    show (ptE (modH H a o) u e j).du = true → (ptE H u e j).du = true
    rw [e1, e2]
    show (decide (((modH H a o).op i).k = 1) && decide (0 ≤ ((modH H a o).op i).e) && (((modH H a o).op i).fo || anyFl (modH H a o) ((modH H a o).op i).e (opsE H e))) = true → (decide ((H.op i).k = 1) && decide (0 ≤ (H.op i).e) && ((H.op i).fo || anyFl H (H.op i).e (opsE H e))) = true
    rw [h.kk i, decide_eq_decide.2 (h.dd i), h.ffo i]
    intro q
    rw [Bool.and_eq_true, Bool.or_eq_true] at q ⊢
    exact ⟨q.1, q.2.imp_right fun z => h.fl (h.ee i) _ z⟩
  · obtain ⟨i, e1, e2⟩ := key j
    obtain ⟨i', e1', e2'⟩ := key k
    show pbf (ptE (modH H a o) u e) j k = true → pbf (ptE H u e) j k = true
    unfold pbf
    rw [e1, e2, e1', e2', hd i']
    intro q
    rw [Bool.and_eq_true, decide_eq_true_iff] at q ⊢
    refine ⟨q.1, ?_⟩
    have h1 : ((modH H a o).op i').e < ((modH H a o).op i).b := q.2
    have h2 := h.bb i
    have h3 := h.ee i'
    show (H.op i').e < (H.op i).b
    omega
end
/-- A history that is explained stays so. -/
theorem somef_mono {H H' : Hi} {u : Nat} (hnc : H'.nc = H.nc) (hlen : ∀ e, e ≤ H.nc → lenE H (u : Nat) e ≤ 12) (hlen' : ∀ e, e ≤ H.nc → lenE H' (u : Nat) e ≤ 12) (hs : ∀ e, e ≤ H.nc → ∃ φ, Sim (ptE H (u : Nat) e) (lenE H (u : Nat) e) (ptE H' (u : Nat) e) (lenE H' (u : Nat) e) φ) (h : SomeF H u) : SomeF H' u := by
  obtain ⟨v, hv⟩ := h
  exact ⟨v, by rw [hnc]; exact fs_mono hnc hlen hlen' hs _ (Nat.le_refl _) v hv⟩
end Sx
