/- Extents that are kept: Place, Drop, Delete; what the reference says of them. Conditions: as each theorem says. -/
import Derived.Test.YtcfifbpkngplmaaXad
set_option linter.unusedSimpArgs false
set_option linter.unusedVariables false
namespace Sx
open Go Go.Proofs
set_option maxRecDepth 100000
set_option pp.deepTerms true
set_option pp.maxSteps 10000000
theorem putS_u {s : XSt} {id : Int} (g : Nat → Int) (nx : Int) (F : List Int) (a : Int) : (putS s id g nx F).u a = if a = id then g else s.u a := by
  show iIns s.u id g a = _
  by_cases e : a = id
  · rw [if_pos e, e, iIns_self]
  · rw [if_neg e, iIns_ne _ _ e]
theorem place_inv {s : XSt} {l : List Int} (h : PInv s l) {id : Int} (hh : s.h id = true) {q : Nat} (hq : q < s.n id) (h0 : s.u id q = 0) {x : Int} (hx0 : 0 ≤ x) (hx1 : x < s.tot) (hx : ¬ owned s x) (nx' : Int) (F' : List Int) (n0 : 0 ≤ nx') (n1 : nx' ≤ s.tot) (fs : F'.Pairwise (· < ·)) (fb : ∀ y ∈ F', 0 ≤ y ∧ y < nx') (hy : ∀ y, 0 ≤ y → ((y < nx' ∧ y ∉ F') ↔ ((y < s.nx ∧ y ∉ s.F) ∨ y = x))) (hc : nx' - F'.length = s.nx - s.F.length + 1) : PInv (putS s id (upU (s.u id) q (x + 1)) nx' F') l := by
  have hu : ∀ a p, (putS s id (upU (s.u id) q (x + 1)) nx' F').u a p = if a = id ∧ p = q then x + 1 else s.u a p := by
    intro a p
    rw [putS_u]
    by_cases e : a = id
    · subst e; rw [if_pos rfl]; unfold upU; simp
    · rw [if_neg e, if_neg (fun q => e q.1)]
  have hnx : ∀ a p, s.h a = true → s.u a p ≠ x + 1 := fun a p ha e => hx ⟨a, p, ha, e⟩
  refine ⟨h.u0, h.u1, h.t0, h.t1, h.ut0, h.ut, h.k, h.ids, h.sz, fun a p ha => ?_, fun a p ha hp => ?_, fun a p a' p' ha ha' hp he => ?_, fs, fb, n0, n1, fun y hy0 => ?_, ?_, h.na⟩
  · rw [hu]; split
    · exact ⟨by omega, by show x + 1 ≤ s.tot; omega⟩
    · exact h.ub a p ha
  · rw [hu]
    have hp : s.n a ≤ p := hp
    rw [if_neg (by rintro ⟨rfl, rfl⟩; omega)]
    exact h.uz a p ha hp
  · rw [hu] at hp he; rw [hu] at he
    by_cases e : a = id ∧ p = q
    · rw [if_pos e] at he hp
      by_cases e' : a' = id ∧ p' = q
      · exact ⟨e.1.trans e'.1.symm, e.2.trans e'.2.symm⟩
      · rw [if_neg e'] at he; exact absurd he.symm (hnx a' p' ha')
    · rw [if_neg e] at he hp
      by_cases e' : a' = id ∧ p' = q
      · rw [if_pos e'] at he; exact absurd he (hnx a p ha)
      · rw [if_neg e'] at he; exact h.uq a p a' p' ha ha' hp he
  · show owned _ y ↔ (y < nx' ∧ y ∉ F')
    rw [hy y hy0, ← h.own y hy0]
    constructor
    · rintro ⟨a, p, ha, e⟩
      rw [hu] at e
      by_cases e' : a = id ∧ p = q
      · rw [if_pos e'] at e; right; omega
      · rw [if_neg e'] at e; exact .inl ⟨a, p, ha, e⟩
    · rintro (⟨a, p, ha, e⟩ | rfl)
      · refine ⟨a, p, ha, ?_⟩
        rw [hu, if_neg (by rintro ⟨rfl, rfl⟩; omega)]; exact e
      · exact ⟨id, q, hh, by rw [hu, if_pos ⟨rfl, rfl⟩]⟩
  · rw [put_tS h hh, cntU_upd _ _ _ (by omega) h0, if_pos hq]
    have := h.cnt
    show _ + (F'.length : Int) = nx'
    omega
theorem place_new_inv {s : XSt} {l : List Int} (h : PInv s l) {id : Int} (hh : s.h id = true) {q : Nat} (hq : q < s.n id) (h0 : s.u id q = 0) (hF : s.F = []) (hx : s.nx < s.tot) : ¬ owned s s.nx ∧ PInv (putS s id (upU (s.u id) q (s.nx + 1)) (s.nx + 1) []) l := by
  have hn := h.n0
  have ho : ¬ owned s s.nx := fun q => by have := ((h.own _ hn).1 q).1; omega
  refine ⟨ho, place_inv h hh hq h0 hn hx ho _ _ (by omega) (by omega) List.Pairwise.nil (fun _ h => by cases h) (fun y _ => ?_) (by rw [hF]; simp)⟩
  rw [hF]
  simp
  omega
theorem place_old_inv {s : XSt} {l : List Int} (h : PInv s l) {id : Int} (hh : s.h id = true) {q : Nat} (hq : q < s.n id) (h0 : s.u id q = 0) {x : Int} {F' : List Int} (hF : s.F = x :: F') : (0 ≤ x ∧ x < s.tot) ∧ ¬ owned s x ∧ PInv (putS s id (upU (s.u id) q (x + 1)) s.nx F') l := by
  have hb := h.fb x (by rw [hF]; exact List.mem_cons_self)
  have n1 := h.n1
  have hfs := h.fs
  rw [hF, List.pairwise_cons] at hfs
  have ho : ¬ owned s x := fun q => ((h.own _ hb.1).1 q).2 (by rw [hF]; exact List.mem_cons_self)
  refine ⟨⟨hb.1, by omega⟩, ho, place_inv h hh hq h0 hb.1 (by omega) ho _ _ h.n0 n1 hfs.2 (fun y hy => h.fb y (by rw [hF]; exact List.mem_cons_of_mem _ hy)) (fun y _ => ?_) (by rw [hF, List.length_cons]; omega)⟩
  rw [hF, List.mem_cons]
  constructor
  · rintro ⟨g1, g2⟩
    by_cases e : y = x
    · exact .inr e
    · exact .inl ⟨g1, fun q => q.elim e g2⟩
  · rintro (⟨g1, g2⟩ | rfl)
    · exact ⟨g1, fun q => g2 (.inr q)⟩
    · exact ⟨hb.2, fun q => by have := hfs.1 y q; omega⟩
theorem PInv.low {s : XSt} {l : List Int} (h : PInv s l) (x : Int) (hx : (s.F = [] ∧ s.tot ≤ s.nx ∧ x = -1) ∨ (s.F = [] ∧ s.nx < s.tot ∧ x = s.nx) ∨ ∃ F', s.F = x :: F') : LowS (rsOf s l) s.tot x := by
  have ow : ∀ y, 0 ≤ y → (OwnS (rsOf s l) y ↔ owned s y) := by
    intro y hy
    constructor
    · rintro ⟨i, hi, k, hk, e⟩
      exact ⟨kF l i, k, h.hk hi, by have e : s.u (kF l i) k - 1 = y := e; omega⟩
    · rintro ⟨a, q, ha, e⟩
      obtain ⟨i, h1, h2, _⟩ := h.at ha
      refine ⟨i, h1, q, ?_, by show s.u (kF l i) q - 1 = y; rw [h2]; omega⟩
      show q < s.n (kF l i)
      rw [h2]
      rcases Nat.lt_or_ge q (s.n a) with g | g
      · exact g
      · have := h.uz a q ha g; omega
  have n1 := h.n1
  rcases hx with ⟨hF, hn, rfl⟩ | ⟨hF, hn, rfl⟩ | ⟨F', hF⟩
  · refine .inl ⟨rfl, fun y h1 h2 => (ow y h1).2 ((h.own y h1).2 ⟨by omega, by rw [hF]; simp⟩)⟩
  · refine .inr ⟨h.n0, hn, fun q => ?_, fun y h1 h2 => (ow y h1).2 ((h.own y h1).2 ⟨h2, by rw [hF]; simp⟩)⟩
    have := ((h.own _ h.n0).1 ((ow _ h.n0).1 q)).1
    omega
  · have hb := h.fb x (by rw [hF]; exact List.mem_cons_self)
    have hfs := h.fs
    rw [hF, List.pairwise_cons] at hfs
    refine .inr ⟨hb.1, by omega, fun q => ((h.own _ hb.1).1 ((ow _ hb.1).1 q)).2 (by rw [hF]; exact List.mem_cons_self), fun y h1 h2 => (ow y h1).2 ((h.own y h1).2 ⟨by omega, ?_⟩)⟩
    rw [hF, List.mem_cons]
    rintro (e | q)
    · omega
    · have := hfs.1 y q; omega
theorem drop_inv {s : XSt} {l : List Int} (h : PInv s l) {id : Int} (hh : s.h id = true) {d : Nat → Bool} (hd : ∀ q, d q = true → 0 < s.u id q) : PInv (putS s id (dU (s.u id) d (s.n id)) s.nx (dF s.F (dL (s.u id) d (s.n id)))) l := by
  have hdn : ∀ q, d q = true → q < s.n id := fun q hq => by
    rcases Nat.lt_or_ge q (s.n id) with g | g
    · exact g
    · have := h.uz id q hh g; have := hd q hq; omega
  have hu : ∀ a p, (putS s id (dU (s.u id) d (s.n id)) s.nx (dF s.F (dL (s.u id) d (s.n id)))).u a p = if a = id ∧ d p = true then 0 else s.u a p := by
    intro a p
    rw [putS_u]
    by_cases e : a = id
    · subst e; rw [if_pos rfl]; unfold dU
      by_cases e2 : d p = true
      · rw [if_pos ⟨hdn p e2, e2⟩, if_pos ⟨rfl, e2⟩]
      · rw [if_neg (fun q => e2 q.2), if_neg (fun q => e2 q.2)]
    · rw [if_neg e, if_neg (fun q => e q.1)]
  have hL : ∀ x, x ∈ dL (s.u id) d (s.n id) ↔ ∃ q, d q = true ∧ s.u id q = x + 1 := fun x => by
    rw [mem_dL]
    exact ⟨fun ⟨q, _, h2, h3⟩ => ⟨q, h2, h3⟩, fun ⟨q, h2, h3⟩ => ⟨q, hdn q h2, h2, h3⟩⟩
  have hLn : (dL (s.u id) d (s.n id)).Nodup := dL_nodup fun q q' _ _ h1 _ e => (h.uq id q id q' hh hh (hd q h1) e).2
  have hLo : ∀ x ∈ dL (s.u id) d (s.n id), 0 ≤ x ∧ x < s.nx ∧ x ∉ s.F := fun x hx => by
    obtain ⟨q, h1, h2⟩ := (hL x).1 hx
    have h0 : 0 ≤ x := by have := hd q h1; omega
    obtain ⟨h3, h4⟩ := (h.own x h0).1 ⟨id, q, hh, h2⟩
    exact ⟨h0, h3, h4⟩
  refine ⟨h.u0, h.u1, h.t0, h.t1, h.ut0, h.ut, h.k, h.ids, h.sz, fun a p ha => ?_, fun a p ha hp => ?_, fun a p a' p' ha ha' hp he => ?_, dF_lt _ _ h.fs hLn fun x hx => (hLo x hx).2.2, fun y hy => ?_, h.n0, h.n1, fun y hy0 => ?_, ?_, h.na⟩
  · rw [hu]; split
    · exact ⟨Int.le_refl _, h.t0⟩
    · exact h.ub a p ha
  · rw [hu]; split
    · rfl
    · exact h.uz a p ha hp
  · rw [hu] at hp he; rw [hu] at he
    split at hp
    · omega
    · rename_i e
      rw [if_neg e] at he
      split at he
      · omega
      · exact h.uq a p a' p' ha ha' hp he
  · rcases (mem_dF y _ _).1 hy with q | q
    · exact h.fb y q
    · obtain ⟨h1, h2, _⟩ := hLo y q; exact ⟨h1, h2⟩
  · show owned _ y ↔ (y < s.nx ∧ y ∉ dF s.F (dL (s.u id) d (s.n id)))
    rw [mem_dF]
    constructor
    · rintro ⟨a, p, ha, e⟩
      rw [hu] at e
      split at e
      · omega
      · rename_i hne
        obtain ⟨h1, h2⟩ := (h.own y hy0).1 ⟨a, p, ha, e⟩
        refine ⟨h1, fun q => q.elim h2 fun q => ?_⟩
        obtain ⟨p0, g1, g2⟩ := (hL y).1 q
        obtain ⟨rfl, rfl⟩ := h.uq id p0 a p hh ha (hd p0 g1) (by rw [g2, e])
        exact hne ⟨rfl, g1⟩
    · rintro ⟨h1, h2⟩
      obtain ⟨a, p, ha, e⟩ := (h.own y hy0).2 ⟨h1, fun q => h2 (.inl q)⟩
      refine ⟨a, p, ha, ?_⟩
      rw [hu, if_neg]
      · exact e
      · rintro ⟨rfl, g⟩
        exact h2 (.inr ((hL y).2 ⟨p, g, e⟩))
  · rw [put_tS h hh]
    have h1 := cntU_drop (s.u id) d hd (s.n id)
    have h2 := h.cnt
    show _ + ((dF s.F (dL (s.u id) d (s.n id))).length : Int) = s.nx
    rw [dF_len]
    omega
def delS (s : XSt) (id : Int) : XSt := ⟨hDel s.h id, s.sz, s.n, s.u, s.F, s.nx, s.tot, s.un⟩
def delL (l : List Int) (k : Nat) : List Int := l.take k ++ l.drop (k + 1)
theorem hDel_iff {h : Int → Bool} {id a : Int} : hDel h id a = true ↔ a ≠ id ∧ h a = true := by
  unfold hDel ieq
  rw [Bool.and_eq_true, Bool.not_eq_true', decide_eq_false_iff_not]
  exact ⟨fun q => ⟨q.2, q.1⟩, fun q => ⟨q.2, q.1⟩⟩
theorem delL_len {l : List Int} {k : Nat} (hk : k < l.length) : (delL l k).length = l.length - 1 := by
  unfold delL; rw [List.length_append, List.length_take, List.length_drop]; omega
theorem kF_delL {l : List Int} {k : Nat} (hk : k < l.length) (j : Nat) : kF (delL l k) j = if j < k then kF l j else kF l (j + 1) := by
  unfold kF delL
  simp only [List.getD_eq_getElem?_getD, List.getElem?_append, List.length_take, Nat.min_eq_left (Nat.le_of_lt hk), List.getElem?_take, List.getElem?_drop]
  split
  · rfl
  · congr 2
    omega
theorem del_inv {s : XSt} {l : List Int} (h : PInv s l) {id : Int} (hh : s.h id = true) (hz : ∀ q, s.u id q = 0) {k : Nat} (hk : k < l.length) (hkI : kF l k = id) : PInv (delS s id) (delL l k) := by
  have hsp : l = l.take k ++ id :: l.drop (k + 1) := by
    have e := List.take_append_drop k l
    rw [List.drop_eq_getElem_cons hk] at e
    rw [kF_lt hk] at hkI
    rw [hkI] at e
    exact e.symm
  have hnd := keys_nodup h.k
  have hm : ∀ a, a ∈ delL l k ↔ (a ≠ id ∧ a ∈ l) := by
    intro a
    rw [hsp, List.nodup_append, List.nodup_cons] at hnd
    obtain ⟨_, ⟨n1, _⟩, n2⟩ := hnd
    unfold delL
    rw [List.mem_append]
    constructor
    · intro q
      refine ⟨fun e => ?_, ?_⟩
      · subst e
        rcases q with q | q
        · exact n2 a q a List.mem_cons_self rfl
        · exact n1 q
      · rcases q with q | q
        · exact List.mem_of_mem_take q
        · exact List.mem_of_mem_drop q
    · rintro ⟨e, q⟩
      rw [hsp] at q
      rcases List.mem_append.1 q with q | q
      · exact .inl q
      · rcases List.mem_cons.1 q with q | q
        · exact absurd q e
        · exact .inr q
  refine ⟨h.u0, h.u1, h.t0, h.t1, h.ut0, h.ut, ⟨?_, fun a => ?_⟩, fun a ha => h.ids a (hDel_iff.1 ha).2, fun a ha => h.sz a (hDel_iff.1 ha).2, fun a q ha => h.ub a q (hDel_iff.1 ha).2, fun a q ha hq => h.uz a q (hDel_iff.1 ha).2 hq, fun a q a' q' ha ha' hp he => h.uq a q a' q' (hDel_iff.1 ha).2 (hDel_iff.1 ha').2 hp he, h.fs, h.fb, h.n0, h.n1, fun x hx => ?_, ?_, h.na⟩
  · have := h.k.1
    rw [hsp] at this
    exact this.sublist ((List.sublist_cons_self _ _).append_left _)
  · rw [hm, h.k.2]; exact hDel_iff.symm
  · have : owned (delS s id) x ↔ owned s x := by
      constructor
      · rintro ⟨a, q, ha, e⟩; exact ⟨a, q, (hDel_iff.1 ha).2, e⟩
      · rintro ⟨a, q, ha, e⟩
        refine ⟨a, q, hDel_iff.2 ⟨fun e' => ?_, ha⟩, e⟩
        subst e'; rw [hz] at e; omega
    rw [this]; exact h.own x hx
  · have hc := h.cnt
    have e0 : cS s id = 0 := by
      have : ∀ n, cntU (s.u id) n = 0 := by
        intro n
        induction n with
        | zero => rfl
        | succ n ih => show cntU _ n + _ = 0; rw [ih, hz]; simp
      show ((cntU _ _ : Nat) : Int) = 0
      rw [this]; rfl
    have e1 : tS s l = tS s (delL l k) := by
      have : tS s l = (((l.take k ++ id :: l.drop (k + 1))).map (cS s)).sum := by unfold tS; rw [← hsp]
      rw [this]
      unfold tS delL
      rw [List.map_append, List.map_cons, List.sum_append, List.sum_cons, e0, List.map_append, List.sum_append]
      omega
    have e2 : tS (delS s id) (delL l k) = tS s (delL l k) := rfl
    rw [e2, ← e1]; exact hc
end Sx
