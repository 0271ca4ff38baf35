/- What the reference's new lists hold. Conditions: as each theorem says. -/
import Derived.Test.YtcfifbpkngplmaaXah
set_option linter.unusedSimpArgs false
set_option linter.unusedVariables false
namespace Sx
open Go Go.Proofs
set_option maxRecDepth 100000
set_option pp.deepTerms true
set_option pp.maxSteps 10000000
theorem rok_put {J J1 : Kn} {s : XSt} {l : List Int} {v v1 : Value} {W W' : Nat → Value} (h : PInv s l) (hr : ROKx J s l v W) (hJ : Kle J J1) {id : Int} {k : Nat} (hk : k < l.length) (hkI : kF l k = id) (hv : Froz J1 v1 l.length 3 (rrow (rsOf s l) W')) (hW : ∀ j, j ≠ k → W' j = W j) (g g' : Nat → Int) (hg : ∀ p, g' p = g p - 1) (hw : Froz J1 (W' k) (s.n id) 1 (urow g')) (nx : Int) (F : List Int) : ROKx J1 (putS s id g nx F) l v1 W' := by
  refine ⟨hv, fun i hi => ?_⟩
  show Froz J1 (W' i) (s.n (kF l i)) 1 (urow fun q => (putS s id g nx F).u (kF l i) q - 1)
  rw [putS_u]
  by_cases e : i = k
  · subst e
    rw [hkI, if_pos rfl]
    exact hw.congr fun p c _ _ => by unfold urow; rw [hg]
  · have hne : kF l i ≠ id := fun q => e (kF_inj h.k.1 hi hk (q.trans hkI.symm))
    rw [if_neg hne, hW i e]
    exact (hr.w i hi).mono hJ
theorem rok_del {J J1 : Kn} {s : XSt} {l : List Int} {v v1 : Value} {W : Nat → Value} (h : PInv s l) (hr : ROKx J s l v W) (hJ : Kle J J1) {id : Int} {k : Nat} (hk : k < l.length) (hkI : kF l k = id) (hv : Froz J1 v1 (l.length - 1) 3 (rrow (delR (rsOf s l) k) (delW W k))) (g : Nat → Int) (nx : Int) (F : List Int) : ROKx J1 (delS (putS s id g nx F) id) (delL l k) v1 (delW W k) := by
  have hl := delL_len hk
  refine ⟨?_, fun i hi => ?_⟩
  · rw [hl]
    refine hv.congr fun a b _ _ => ?_
    have e := kF_delL hk a
    unfold rrow
    split
    · show i64 (kF (delL l k) a) = i64 (if a < k then kF l a else kF l (a + 1))
      rw [e]
    · show i64 (s.sz (kF (delL l k) a)) = i64 (if a < k then s.sz (kF l a) else s.sz (kF l (a + 1)))
      rw [e]; split <;> rfl
    · rfl
  · have hi : i < (delL l k).length := hi
    rw [hl] at hi
    show Froz J1 (delW W k i) (s.n (kF (delL l k) i)) 1 (urow fun q => (putS s id g nx F).u (kF (delL l k) i) q - 1)
    rw [kF_delL hk i, putS_u]
    unfold delW
    by_cases q : i < k
    · have hne : kF l i ≠ id := fun e => by have := kF_inj h.k.1 (by omega) hk (e.trans hkI.symm); omega
      rw [if_pos q, if_pos q, if_neg hne]
      exact (hr.w i (by show i < l.length; omega)).mono hJ
    · have hne : kF l (i + 1) ≠ id := fun e => by have := kF_inj h.k.1 (by omega) hk (e.trans hkI.symm); omega
      rw [if_neg q, if_neg q, if_neg hne]
      exact (hr.w (i + 1) (by show i + 1 < l.length; omega)).mono hJ
theorem rok_cr {J J1 : Kn} {s : XSt} {l : List Int} {v v1 : Value} {W : Nat → Value} (hr : ROKx J s l v W) (hJ : Kle J J1) {id c : Int} (hid : id ∉ l) {w : Value} (hv : Froz J1 v1 (l.length + 1) 3 (rrow (insR (rsOf s l) (l.countP (· < id)) id c (parts s.un c)) (insW W (l.countP (· < id)) w))) (hw : Froz J1 w (parts s.un c) 1 (urow fun _ => (-1))) : ROKx J1 (crS s id c) (insF id l) v1 (insW W (l.countP (· < id)) w) := by
  have hl := insF_len id l
  have hc := countP_le' id l
  have hkf := kF_insAt l (l.countP (· < id)) hc id
  have ekf : ∀ j, kF (insF id l) j = _ := hkf
  generalize l.countP (· < id) = k at *
  have hne : ∀ j, j < l.length → kF l j ≠ id := fun j hj e => hid (e ▸ kF_mem hj)
  refine ⟨?_, fun i hi => ?_⟩
  · rw [hl]
    refine hv.congr fun a b ha _ => ?_
    unfold rrow
    split
    · show i64 (kF (insF id l) a) = i64 (if a < k then kF l a else if a = k then id else kF l (a - 1))
      rw [ekf]
    · show i64 (iIns s.sz id c (kF (insF id l) a)) = i64 (if a < k then s.sz (kF l a) else if a = k then c else s.sz (kF l (a - 1)))
      rw [ekf]
      by_cases q : a < k
      · rw [if_pos q, if_pos q, iIns_ne _ _ (hne a (by omega))]
      · rw [if_neg q, if_neg q]
        by_cases q' : a = k
        · rw [if_pos q', if_pos q', iIns_self]
        · rw [if_neg q', if_neg q', iIns_ne _ _ (hne (a - 1) (by omega))]
    · rfl
  · have hi : i < (insF id l).length := hi
    rw [hl] at hi
    show Froz J1 (insW W k w i) (iIns s.n id (parts s.un c) (kF (insF id l) i)) 1 (urow fun q => iIns s.u id (fun _ => 0) (kF (insF id l) i) q - 1)
    rw [ekf]
    unfold insW
    by_cases q : i < k
    · rw [if_pos q, if_pos q, iIns_ne _ _ (hne i (by omega)), iIns_ne _ _ (hne i (by omega))]
      exact (hr.w i (by show i < l.length; omega)).mono hJ
    · rw [if_neg q, if_neg q]
      by_cases q' : i = k
      · rw [if_pos q', if_pos q', iIns_self, iIns_self]
        exact hw
      · rw [if_neg q', if_neg q', iIns_ne _ _ (hne (i - 1) (by omega)), iIns_ne _ _ (hne (i - 1) (by omega))]
        exact (hr.w (i - 1) (by show i - 1 < l.length; omega)).mono hJ
end Sx
