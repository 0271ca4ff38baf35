/- Extents that are kept: what each call makes of them. Conditions: as each theorem says. -/
import Derived.Test.YtcfifbpkngplmaaXac
set_option linter.unusedSimpArgs false
set_option linter.unusedVariables false
namespace Sx
open Go Go.Proofs
set_option maxRecDepth 100000
set_option pp.deepTerms true
set_option pp.maxSteps 10000000
def rsOf (s : XSt) (l : List Int) : RS := ⟨l.length, kF l, fun i => s.sz (kF l i), fun i => s.n (kF l i), fun i q => s.u (kF l i) q - 1⟩
def owned (s : XSt) (x : Int) : Prop := ∃ a q, s.h a = true ∧ s.u a q = x + 1
def cS (s : XSt) (a : Int) : Int := cntU (s.u a) (s.n a)
def tS (s : XSt) (l : List Int) : Int := (l.map (cS s)).sum
structure PInv (s : XSt) (l : List Int) : Prop where
  u0 : 0 < s.un
  u1 : s.un ≤ 400
  t0 : 0 ≤ s.tot
  t1 : s.tot ≤ 400
  ut0 : 0 ≤ s.un * s.tot
  ut : s.un * s.tot ≤ 400
  k : KeysOf s.h l
  ids : ∀ a, s.h a = true → 1 ≤ a ∧ a ≤ 1024
  sz : ∀ a, s.h a = true → 1 ≤ s.sz a ∧ s.sz a ≤ s.un * s.tot ∧ s.n a = parts s.un (s.sz a)
  ub : ∀ a q, s.h a = true → 0 ≤ s.u a q ∧ s.u a q ≤ s.tot
  uz : ∀ a q, s.h a = true → s.n a ≤ q → s.u a q = 0
  uq : ∀ a q a' q', s.h a = true → s.h a' = true → 0 < s.u a q → s.u a q = s.u a' q' → a = a' ∧ q = q'
  fs : s.F.Pairwise (· < ·)
  fb : ∀ x ∈ s.F, 0 ≤ x ∧ x < s.nx
  n0 : 0 ≤ s.nx
  n1 : s.nx ≤ s.tot
  own : ∀ x, 0 ≤ x → (owned s x ↔ (x < s.nx ∧ x ∉ s.F))
  cnt : tS s l + s.F.length = s.nx
  na : ∀ a, s.n a ≤ 400
theorem parts_bd {un c : Int} (h0 : 0 < un) (h1 : 1 ≤ c) (h2 : c ≤ 400) : 0 < parts un c ∧ parts un c ≤ 400 := by
  unfold parts
  have e1 : 1 ≤ (c + un - 1) / un := Int.le_ediv_of_mul_le h0 (by omega)
  have e2 : (c + un - 1) / un ≤ 400 := by
    have : (c + un - 1) / un < 401 := Int.ediv_lt_of_lt_mul h0 (by
      have : 401 * un = 400 * un + un := by omega
      have : 400 ≤ 400 * un := by omega
      omega)
    omega
  omega
theorem parts_lt {un c : Int} (h0 : 0 < un) (h1 : 1 ≤ c) (i : Nat) : (i : Int) * un < c ↔ i < parts un c := by
  unfold parts
  have e1 : 0 ≤ (c + un - 1) / un := Int.ediv_nonneg (by omega) (by omega)
  have : i < ((c + un - 1) / un).toNat ↔ (i : Int) + 1 ≤ (c + un - 1) / un := by omega
  rw [this, Int.le_ediv_iff_mul_le h0, Int.add_mul, Int.one_mul]
  omega
theorem PInv.nb {s : XSt} {l : List Int} (h : PInv s l) {a : Int} (ha : s.h a = true) : 0 < s.n a ∧ s.n a ≤ 400 := by
  obtain ⟨h1, h2, h3⟩ := h.sz a ha
  rw [h3]; exact parts_bd h.u0 h1 (Int.le_trans h2 h.ut)
theorem PInv.qn {s : XSt} {l : List Int} (h : PInv s l) {a q : Int} (ha : s.h a = true) (g0 : 0 ≤ q) (g1 : q < s.sz a) : (q / s.un).toNat < s.n a := by
  obtain ⟨h1, h2, h3⟩ := h.sz a ha
  rw [h3, ← parts_lt h.u0 h1]
  have := Int.ediv_nonneg g0 (Int.le_of_lt h.u0)
  have e : ((q / s.un).toNat : Int) = q / s.un := by omega
  rw [e]
  have := Int.ediv_mul_le q (by have := h.u0; omega : s.un ≠ 0)
  omega
theorem PInv.fl {s : XSt} {l : List Int} (h : PInv s l) : s.F.length ≤ 400 := by
  have : ∀ (F : List Int) (n : Int), 0 ≤ n → F.Pairwise (· < ·) → (∀ x ∈ F, 0 ≤ x ∧ x < n) → (F.length : Int) ≤ n := by
    intro F n hn hp hb
    have hsub : F.length ≤ ((List.range n.toNat).map fun (i : Nat) => (i : Int)).length := List.Nodup.length_le_of_subset (hp.imp fun {a b} h => by omega) fun x hx => by
      obtain ⟨h1, h2⟩ := hb x hx
      exact List.mem_map.2 ⟨x.toNat, List.mem_range.2 (by omega), by omega⟩
    rw [List.length_map, List.length_range] at hsub
    omega
  have := this s.F s.nx h.n0 h.fs h.fb
  have := h.n1; have := h.t1
  omega
theorem PInv.mulb {s : XSt} {l : List Int} (h : PInv s l) {x : Int} (h0 : 0 ≤ x) (h1 : x ≤ s.tot) : 0 ≤ x * s.un ∧ x * s.un ≤ 400 := by
  have a1 := Int.mul_nonneg h0 (Int.le_of_lt h.u0)
  have a2 := Int.mul_le_mul_of_nonneg_right h1 (Int.le_of_lt h.u0)
  have a3 := h.ut
  rw [Int.mul_comm] at a3
  omega
theorem PInv.hf {s : XSt} {l : List Int} (h : PInv s l) {a : Int} (ha : s.h a = true) (i : Nat) : 0 ≤ s.u a i ∧ s.u a i ≤ 16777217 ∧ (s.u a i - 1) * s.un ≤ 16777216 := by
  obtain ⟨h1, h2⟩ := h.ub a i ha
  have := h.t1
  refine ⟨h1, by omega, ?_⟩
  rcases Int.lt_or_le (s.u a i) 1 with q | q
  · have : s.u a i = 0 := by omega
    rw [this]
    have := h.u0
    omega
  · have := (h.mulb (x := s.u a i - 1) (by omega) (by omega)).2
    omega
theorem sum_insAt (g : Int → Int) (l : List Int) (i : Nat) (u : Int) : ((insAt l i u).map g).sum = (l.map g).sum + g u := by
  unfold insAt
  rw [List.map_append, List.map_cons, List.sum_append, List.sum_cons]
  have : (l.map g).sum = ((l.take i).map g).sum + ((l.drop i).map g).sum := by
    rw [← List.sum_append, ← List.map_append, List.take_append_drop]
  omega
theorem sum_congr {g g' : Int → Int} : ∀ {l : List Int}, (∀ a ∈ l, g a = g' a) → (l.map g).sum = (l.map g').sum
  | [], _ => rfl
  | a :: l, h => by
    rw [List.map_cons, List.map_cons, List.sum_cons, List.sum_cons, h a List.mem_cons_self, sum_congr fun b hb => h b (List.mem_cons_of_mem _ hb)]
theorem sum_change (g g' : Int → Int) (id : Int) : ∀ l : List Int, l.Nodup → id ∈ l → (∀ a, a ≠ id → g' a = g a) → (l.map g').sum = (l.map g).sum + (g' id - g id) := by
  intro l
  induction l with
  | nil => intro _ h; cases h
  | cons a l ih =>
    intro hn hm he
    rw [List.nodup_cons] at hn
    rw [List.map_cons, List.map_cons, List.sum_cons, List.sum_cons]
    by_cases h : a = id
    · subst h
      rw [sum_congr fun b hb => he b fun e => hn.1 (e ▸ hb)]
      omega
    · rcases List.mem_cons.1 hm with e | hm
      · exact absurd e.symm h
      · rw [ih hn.2 hm he, he a h]; omega
theorem keys_nodup {h : Int → Bool} {l : List Int} (hk : KeysOf h l) : l.Nodup := hk.1.imp fun {a b} h => by omega
theorem sumC_rs (s : XSt) (l : List Int) : sumC (rsOf s l) l.length = tS s l := by
  have key : ∀ i, i ≤ l.length → sumC (rsOf s l) i = ((l.take i).map (cS s)).sum := by
    intro i
    induction i with
    | zero => intro _; simp [sumC]
    | succ i ih =>
      intro hi
      have e : sumC (rsOf s l) (i + 1) = sumC (rsOf s l) i + cntR ((rsOf s l).U i) ((rsOf s l).N i) := rfl
      have e2 : l.take (i + 1) = l.take i ++ [kF l i] := by
        rw [List.take_succ_eq_append_getElem (by omega), kF_lt (by omega)]
      rw [e, e2, List.map_append, List.sum_append, ih (by omega)]
      have e3 : cntR ((rsOf s l).U i) ((rsOf s l).N i) = cntU (s.u (kF l i)) (s.n (kF l i)) := cntU_congr fun q _ => by show s.u (kF l i) q - 1 + 1 = _; omega
      rw [e3]; simp [cS]
  rw [key l.length (Nat.le_refl _), List.take_length]; rfl
theorem PInv.at {s : XSt} {l : List Int} (h : PInv s l) {id : Int} (hh : s.h id = true) : ∃ k, k < l.length ∧ kF l k = id ∧ ∀ j, j < k → kF l j ≠ id := by
  obtain ⟨k, h1, h2⟩ := mem_kF ((h.k.2 id).2 hh)
  exact ⟨k, h1, h2, fun j hj e => by have := kF_sorted h.k.1 hj h1; omega⟩
theorem PInv.hk {s : XSt} {l : List Int} (h : PInv s l) {j : Nat} (hj : j < l.length) : s.h (kF l j) = true := (h.k.2 _).1 (kF_mem hj)
def crS (s : XSt) (id c : Int) : XSt := ⟨hIns s.h id, iIns s.sz id c, iIns s.n id (parts s.un c), iIns s.u id (fun _ => 0), s.F, s.nx, s.tot, s.un⟩
theorem hIns_or {h : Int → Bool} {id a : Int} (e : hIns h id a = true) : a = id ∨ (a ≠ id ∧ h a = true) := by
  by_cases q : a = id
  · exact .inl q
  · refine .inr ⟨q, ?_⟩
    unfold hIns at e
    rw [ieq_ne q] at e
    simpa using e
theorem hIns_self (h : Int → Bool) (id : Int) : hIns h id id = true := by simp [hIns, ieq]
theorem hIns_old {h : Int → Bool} {a : Int} (id : Int) (e : h a = true) : hIns h id a = true := by simp [hIns, e]
theorem cr_inv {s : XSt} {l : List Int} (h : PInv s l) {id c : Int} (h1 : 1 ≤ id) (h2 : id ≤ 1024) (h3 : 1 ≤ c) (h4 : c ≤ s.un * s.tot) (hh : s.h id = false) : PInv (crS s id c) (insF id l) := by
  have hid : id ∉ l := fun q => by rw [(h.k.2 id).1 q] at hh; cases hh
  have hu : ∀ a q, hIns s.h id a = true → ((crS s id c).u a q = 0 ∨ (s.h a = true ∧ (crS s id c).u a q = s.u a q)) := by
    intro a q ha
    rcases hIns_or ha with rfl | ⟨e, g⟩
    · left; show iIns s.u a (fun _ => 0) a q = 0; rw [iIns_self]
    · right; exact ⟨g, by show iIns s.u id (fun _ => 0) a q = _; rw [iIns_ne _ _ e]⟩
  refine ⟨h.u0, h.u1, h.t0, h.t1, h.ut0, h.ut, ⟨insF_lt id l h.k.1 hid, fun a => ?_⟩, fun a ha => ?_, fun a ha => ?_, fun a q ha => ?_, fun a q ha hq => ?_, fun a q a' q' ha ha' hp he => ?_, h.fs, h.fb, h.n0, h.n1, fun x hx => ?_, ?_, fun a => ?_⟩
  · rw [mem_insF]
    constructor
    · rintro (rfl | q)
      · exact hIns_self _ _
      · exact hIns_old _ ((h.k.2 a).1 q)
    · intro q
      rcases hIns_or q with rfl | ⟨_, g⟩
      · exact .inl rfl
      · exact .inr ((h.k.2 a).2 g)
  · rcases hIns_or ha with rfl | ⟨e, g⟩
    · exact ⟨h1, h2⟩
    · exact h.ids a g
  · show 1 ≤ iIns s.sz id c a ∧ iIns s.sz id c a ≤ _ ∧ iIns s.n id _ a = parts s.un (iIns s.sz id c a)
    rcases hIns_or ha with rfl | ⟨e, g⟩
    · rw [iIns_self, iIns_self]; exact ⟨h3, h4, rfl⟩
    · rw [iIns_ne _ _ e, iIns_ne _ _ e]; exact h.sz a g
  · have := h.t0
    rcases hu a q ha with e | ⟨g, e⟩
    · rw [e]; exact ⟨Int.le_refl _, this⟩
    · rw [e]; exact h.ub a q g
  · rcases hIns_or ha with rfl | ⟨e, g⟩
    · show iIns s.u a (fun _ => 0) a q = 0; rw [iIns_self]
    · show iIns s.u id (fun _ => 0) a q = 0
      rw [iIns_ne _ _ e]
      exact h.uz a q g (by have : iIns s.n id (parts s.un c) a ≤ q := hq; rwa [iIns_ne _ _ e] at this)
  · rcases hu a q ha with e | ⟨g, e⟩
    · rw [e] at hp; omega
    · rcases hu a' q' ha' with e' | ⟨g', e'⟩
      · rw [e'] at he; omega
      · rw [e, e'] at he; rw [e] at hp; exact h.uq a q a' q' g g' hp he
  · have : owned (crS s id c) x ↔ owned s x := by
      constructor
      · rintro ⟨a, q, ha, hq⟩
        rcases hu a q ha with e | ⟨g, e⟩
        · rw [e] at hq; omega
        · exact ⟨a, q, g, by rw [← e]; exact hq⟩
      · rintro ⟨a, q, ha, hq⟩
        have hne : a ≠ id := fun e => by rw [e, hh] at ha; cases ha
        exact ⟨a, q, hIns_old _ ha, by show iIns s.u id (fun _ => 0) a q = _; rw [iIns_ne _ _ hne]; exact hq⟩
    rw [this]; exact h.own x hx
  · have hz : ∀ n, cntU (fun _ => (0 : Int)) n = 0 := by
      intro n
      induction n with
      | zero => rfl
      | succ n ih => show cntU _ n + _ = 0; rw [ih]; simp
    have e : tS (crS s id c) (insF id l) = tS s l := by
      unfold tS insF
      rw [sum_insAt]
      have e1 : cS (crS s id c) id = 0 := by
        show ((cntU (iIns s.u id (fun _ => 0) id) (iIns s.n id (parts s.un c) id) : Nat) : Int) = 0
        rw [iIns_self, hz]; rfl
      rw [e1, Int.add_zero]
      refine sum_congr fun a ha => ?_
      have hne : a ≠ id := fun e => hid (e ▸ ha)
      show ((cntU (iIns s.u id (fun _ => 0) a) (iIns s.n id (parts s.un c) a) : Nat) : Int) = cS s a
      rw [iIns_ne _ _ hne, iIns_ne _ _ hne]; rfl
    rw [e]; exact h.cnt
  · show iIns s.n id (parts s.un c) a ≤ 400
    by_cases e : a = id
    · rw [e, iIns_self]; exact (parts_bd h.u0 h3 (Int.le_trans h4 h.ut)).2
    · rw [iIns_ne _ _ e]; exact h.na a
def putS (s : XSt) (id : Int) (g : Nat → Int) (nx : Int) (F : List Int) : XSt := ⟨s.h, s.sz, s.n, iIns s.u id g, F, nx, s.tot, s.un⟩
theorem put_tS {s : XSt} {l : List Int} (h : PInv s l) {id : Int} (hh : s.h id = true) (g : Nat → Int) (nx : Int) (F : List Int) : tS (putS s id g nx F) l = tS s l + ((cntU g (s.n id) : Int) - (cntU (s.u id) (s.n id) : Int)) := by
  unfold tS
  rw [sum_change (cS s) (cS (putS s id g nx F)) id l (keys_nodup h.k) ((h.k.2 id).2 hh) (fun a ha => by show ((cntU (iIns s.u id g a) _ : Nat) : Int) = _; rw [iIns_ne _ _ ha]; rfl)]
  have : cS (putS s id g nx F) id = cntU g (s.n id) := by show ((cntU (iIns s.u id g id) _ : Nat) : Int) = _; rw [iIns_self]; rfl
  rw [this]; rfl
end Sx
