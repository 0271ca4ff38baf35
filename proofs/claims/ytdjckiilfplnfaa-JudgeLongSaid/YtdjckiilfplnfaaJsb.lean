/- Package judge: the library's sort of the vectors. Conditions: as each theorem says. -/
import Derived.Test.YtdjckiilfplnfaaJsa
import Derived.Test.YtdjckiilfplnfaaEngX4
import Derived.Sort.Statements
import Derived.Shelf.SlicesE.Kit
set_option linter.unusedSimpArgs false
set_option linter.unusedVariables false
namespace Sx
open Go Go.Proofs
set_option maxRecDepth 100000
theorem cmpR_self (f : Nat → Int) (n : Nat) : ∀ k, cmpR f f n k = 0
  | 0 => rfl
  | k + 1 => by unfold cmpR; rw [if_pos rfl]; exact cmpR_self f n k
theorem cmpR_trans (f g h : Nat → Int) (n : Nat) : ∀ k, cmpR f g n k < 0 → cmpR g h n k < 0 → cmpR f h n k < 0
  | 0 => fun p _ => p
  | k + 1 => by
    have ih := cmpR_trans f g h n k
    simp only [cmpR]
    generalize f (n - (k + 1)) = a
    generalize g (n - (k + 1)) = b
    generalize h (n - (k + 1)) = c
    generalize cmpR f g n k = x at *
    generalize cmpR g h n k = y at *
    generalize cmpR f h n k = z at *
    simp only [cmpI]
    intro p q
    split at p <;> split at q <;> split <;> (repeat' split at p) <;> (repeat' split at q) <;> (repeat' split) <;> first | omega | (exact ih p q)
theorem cmpR_ntrans (f g h : Nat → Int) (n : Nat) : ∀ k, ¬ cmpR f g n k < 0 → ¬ cmpR g h n k < 0 → ¬ cmpR f h n k < 0
  | 0 => fun p _ => p
  | k + 1 => by
    have ih := cmpR_ntrans f g h n k
    simp only [cmpR]
    generalize f (n - (k + 1)) = a
    generalize g (n - (k + 1)) = b
    generalize h (n - (k + 1)) = c
    generalize cmpR f g n k = x at *
    generalize cmpR g h n k = y at *
    generalize cmpR f h n k = z at *
    simp only [cmpI]
    intro p q
    split at p <;> split at q <;> split <;> (repeat' split at p) <;> (repeat' split at q) <;> (repeat' split) <;> first | omega | (exact ih p q)
theorem swo_cmpR {α : Type} (X : α → Nat → Int) (n : Nat) : Go.Sort.SWO fun x y => decide (cmpR (X x) (X y) n n < 0) :=
  ⟨fun x => by rw [cmpR_self]; rfl, fun x y z p q => by simp only [decide_eq_true_eq] at *; exact cmpR_trans _ _ _ n n p q, fun x y z p q => by simp only [decide_eq_false_iff_not] at *; exact cmpR_ntrans _ _ _ n n p q⟩
/-- What is asked of the library's sort. -/
def SortLaw : Prop := ∀ (enc : Nat → Value) (cf : Nat → Nat → Int) (blk off cap : Nat) (d : Array Nat) (w : World), OneCell enc → Go.Sort.SWO (fun x y => decide (cf x y < 0)) →
  (∀ (m : Nat) (os : Array Obj) (dk : Array Nat), dk.size = d.size → ∀ x y : Nat, Calls Try.prog 28 #[enc x, enc y] (Go.Sort.grow (Go.Sort.putRow enc (Go.Sort.ahead w m) blk off dk) os) fun e w' => e = .returned (.int .i64 (cf x y)) ∧ ∃ q, w' = (Go.Sort.grow (Go.Sort.putRow enc (Go.Sort.ahead w m) blk off dk) os).drewN q) →
  Go.Sort.Holds enc w blk off d → blk < w.heap.size → d.size < 4611686018427387904 →
  Calls Try.prog 27 #[.slice (some ⟨blk, off, none⟩) d.size cap, .func (.func 28) #[] #[]] w fun e w' =>
    e = .returned (.tuple #[]) ∧ ∃ d' n os, Go.Sort.PermIn 0 d.size d d' ∧ Go.Sort.SortedIn (fun x y => decide (cf x y < 0)) 0 d.size d' ∧ w' = Go.Sort.grow (Go.Sort.putRow enc (Go.Sort.ahead w n) blk off d') os
def SortNone : Prop := ∀ (p : Option Addr) (cap : Nat) (fv : Value) (w : World), Calls Try.prog 27 #[.slice p 0 cap, fv] w fun e w' => e = .returned (.tuple #[]) ∧ w' = w
/-- A numbering of m rows in their order. -/
structure Ord (m n : Nat) (X : Nat → Nat → Int) (σ : Nat → Nat) : Prop where
  perm : ((List.range m).map σ).Perm (List.range m)
  sorted : ∀ i j, i < j → j < m → ¬ cmpR (X (σ j)) (X (σ i)) n n < 0
theorem Ord.lt {m n : Nat} {X : Nat → Nat → Int} {σ : Nat → Nat} (h : Ord m n X σ) {i : Nat} (hi : i < m) : σ i < m := by
  have : σ i ∈ (List.range m).map σ := List.mem_map.2 ⟨i, List.mem_range.2 hi, rfl⟩
  exact List.mem_range.1 (h.perm.mem_iff.1 this)
theorem sortV_hck (hS : SortLaw) (hN : SortNone) {K : Kn} (m n cap : Nat) (W : Nat → Value) (X : Nat → Nat → Int) (hn1 : 1 ≤ n) (hn : n ≤ 100) (hm : m < 4611686018427387904) (hW : ∀ i, i < m → Froz K (W i) n 1 (urow (X i))) (ty : TypeId) :
    HCK Try.prog K 27 [.sq 0 0 0 1 m .no, .clo (.func 28) [] []] [(0, .row 0 m cap 1 (fun i _ => .val (W i)) ty)] [] 1 (fun σ : Nat → Nat => Ord m n X σ) (fun σ => ⟨.tup [], [(0, .row 0 m cap 1 (fun i _ => .val (W (σ i))) ty)], 1⟩) := by
  intro B β w vs hB hK hvs hs
  obtain ⟨v, vs', rfl, ⟨base, room, rfl, q1, q2, q3, q4⟩, hvs⟩ := hvs
  obtain ⟨v, vs', rfl, ⟨us, ws, rfl, hl1, hl2⟩, rfl⟩ := hvs
  have hl1 : us = [] := hl1
  have hl2 : ws = [] := hl2
  subst hl1
  subst hl2
  rcases Nat.eq_zero_or_pos m with h0 | h0
  · subst h0
    refine (hN base room _ w).mono ?_
    rintro e w' ⟨rfl, rfl⟩
    exact ⟨id, β, .tuple #[], ⟨.refl _, fun i j _ h => absurd h (Nat.not_lt_zero _)⟩, Env.le_refl _, rfl, ⟨[], rfl, rfl⟩, hs⟩
  · obtain ⟨r1, b, r2, rfl, r3⟩ := q4 h0
    obtain ⟨b', ob, g1, g2, g3, g4, g5⟩ := hs.own 0 _ rfl h0
    rw [r2] at g1; injection g1 with g1; subst g1
    obtain ⟨c, fz, tt, c0, rfl, c1, c2, c3⟩ := g4
    have hfz : fz = (0, 0) := g5.l
    subst hfz
    have hlt : b < w.heap.size := (Array.getElem?_eq_some_iff.1 g3).1
    have hcell : ∀ j, j < m → c[j]? = some (W j) := by
      intro j hj
      obtain ⟨u, hu1, hu2⟩ := c3 j 0 hj (by omega)
      have hu2 : u = W j := hu2.1
      rw [hu2] at hu1
      simpa using hu1
    obtain ⟨T, hT⟩ : ∃ T : Nat → Nat, T = fun i => min i (m - 1) := ⟨_, rfl⟩
    have hTm : ∀ i, T i < m := fun i => by rw [hT]; show min i (m - 1) < m; omega
    have hTi : ∀ i, i < m → T i = i := fun i hi => by rw [hT]; show min i (m - 1) = i; omega
    have hd : ∀ j, j < m → (Array.range m)[j]! = j := fun j hj => by simp [hj]
    have hH : Go.Sort.Holds (fun i => W (T i)) w b (0 + 0 * 1) (Array.range m) := by
      intro j hj
      have hj : j < m := by simpa using hj
      refine ⟨?_, by simp [World.frozen?, g3]⟩
      simp only [World.cell?, g3, Option.isSome_none, Bool.false_eq_true, if_false]
      rw [show 0 + 0 * 1 + j = j by omega, hcell j hj, hd j hj, hTi j hj]
    have hcs : (Array.range m).size = m := Array.size_range
    have hKb : ∀ x o, K x = some o → x ≠ b := fun x o e q => by
      have := hK x o e
      rw [q, g2] at this; cases this
    have hone : OneCell fun i => W (T i) := fun i => by
      obtain ⟨ba, ro, e1, _⟩ := hW (T i) (hTm i)
      show (W (T i)).oneCell' = true
      rw [e1]; rfl
    have hcall := hS (fun i => W (T i)) (fun x y => cmpR (X (T x)) (X (T y)) n n) b (0 + 0 * 1) room (Array.range m) w hone (swo_cmpR (fun i => X (T i)) n) (fun p os dk hdk x y => by
      obtain ⟨ba, ro, e1, _, e3⟩ := hW (T x) (hTm x)
      obtain ⟨_, b1, o1, cc1, t1, z1, e4, e5, e6⟩ := e3 (by omega)
      obtain ⟨ba', ro', f1, _, f3⟩ := hW (T y) (hTm y)
      obtain ⟨_, b2, o2, cc2, t2, z2, f4, f5, f6⟩ := f3 (by omega)
      have hcellK : ∀ (bb : Nat) (cc : Array Value) (t : TypeId) (z : Nat × Nat), K bb = some (.cells cc t z) → ∀ oo, (Go.Sort.grow (Go.Sort.putRow (fun i => W (T i)) (Go.Sort.ahead w p) b (0 + 0 * 1) dk) os).cell? ⟨bb, oo, none⟩ = cc[oo]? := by
        intro bb cc t z hbb oo
        have h1 := hs.old bb _ (hK bb _ hbb)
        have hltb : bb < w.heap.size := (Array.getElem?_eq_some_iff.1 h1).1
        rw [Go.Sort.cell?_grow _ _ _ (by simpa using hltb), Go.Sort.cell?_putRow_other _ _ _ _ _ _ (.inl (hKb bb _ hbb))]
        simp [World.cell?, Go.Sort.ahead, h1]
      have := jCompare b1 o1 ro b2 o2 ro' n (X (T x)) (X (T y)) (Go.Sort.grow (Go.Sort.putRow (fun i => W (T i)) (Go.Sort.ahead w p) b (0 + 0 * 1) dk) os) hn (fun j hj => by
        rw [hcellK b1 cc1 t1 z1 e5]
        obtain ⟨u, u1, u2⟩ := e6 j 0 hj (by omega)
        have u2 : u = .int .i64 (X (T x) j) := u2
        rw [← u2, ← u1]; congr 1; omega) (fun j hj => by
        rw [hcellK b2 cc2 t2 z2 f5]
        obtain ⟨u, u1, u2⟩ := f6 j 0 hj (by omega)
        have u2 : u = .int .i64 (X (T y) j) := u2
        rw [← u2, ← u1]; congr 1; omega)
      rw [e1, e4, f1, f4]
      exact this) hH hlt (by rw [hcs]; exact hm)
    rw [hcs] at hcall
    refine hcall.mono ?_
    rintro e w' ⟨rfl, d', k, os, ⟨p1, p2, p3⟩, p4, rfl⟩
    rw [hcs] at p1
    have hd'l : d'.toList.Perm (List.range m) := by
      have e1 : d'.extract 0 m = d' := by rw [← p1]; simp
      have e2 : (Array.range m).extract 0 m = Array.range m := by
        have := Array.extract_size (xs := Array.range m)
        rw [hcs] at this; exact this
      rw [e1, e2] at p3
      simpa [Array.toList_range] using p3
    have hmap : (List.range m).map (fun i => d'[i]!) = d'.toList := by
      apply List.ext_getElem
      · simp [p1]
      · intro i h1 h2
        have h3 : i < d'.size := by simpa using h2
        simp [h3]
    have hO : Ord m n X (fun i => d'[i]!) := by
      have hlt2 : ∀ i, i < m → d'[i]! < m := fun i hi => by
        have h3 : i < d'.size := by rw [p1]; exact hi
        have : d'[i]! ∈ d'.toList := by rw [getElem!_pos d' i h3]; simp
        exact List.mem_range.1 (hd'l.mem_iff.1 this)
      refine ⟨by rw [hmap]; exact hd'l, fun i j hij hj => ?_⟩
      have := p4 i j (Nat.zero_le _) hij hj
      simp only [decide_eq_false_iff_not] at this
      rw [hTi _ (hlt2 i (by omega)), hTi _ (hlt2 j hj)] at this
      exact this
    refine ⟨fun i => d'[i]!, β, .tuple #[], hO, Env.le_refl _, rfl, ⟨[], rfl, rfl⟩, ⟨Mem.grow ?_ os, hs.fresh⟩⟩
    have hset' : hset 0 (.row 0 m cap 1 (fun i _ => .val (W (d'[i]!))) ty) [(0, .row 0 m cap 1 (fun i _ => .val (W i)) ty)] = some [(0, .row 0 m cap 1 (fun i _ => .val (W (d'[i]!))) ty)] := rfl
    refine (hs.toMem.ahead k).set hset' ⟨rfl, h0⟩ r2 (ob := .cells (Go.Sort.putCells (fun i => W (T i)) (0 + 0 * 1) d' c) tt (0, 0)) ?_ ⟨rfl, ?_⟩ ?_ ?_ ?_ rfl rfl rfl
    · refine ⟨_, (0, 0), tt, c0, rfl, c1, by simpa [Go.Sort.putCells] using c2, fun i k hi hk => ?_⟩
      have hk0 : k = 0 := by omega
      subst hk0
      refine ⟨W (d'[i]!), ?_, rfl, by have := hone (d'[i]!); rwa [show (fun i => W (T i)) (d'[i]!) = W (d'[i]!) by show W (T (d'[i]!)) = _; rw [hTi _ (hO.lt hi)]] at this⟩
      rw [show 0 + i * 1 + 0 = i by omega]
      simp only [Go.Sort.putCells, Array.getElem?_mapIdx, hcell i hi, Option.map_some]
      rw [if_pos ⟨by omega, by rw [p1]; omega⟩]
      rw [show i - (0 + 0 * 1) = i by omega, hTi _ (hO.lt hi)]
    · have := g5.s
      simpa [Go.Sort.putCells, osize] using this
    · simp [Go.Sort.putRow, Go.Sort.mapBlock, Array.getElem?_modify, g3, Go.Sort.onCells]
    · intro k hk
      simp [Go.Sort.putRow, Go.Sort.mapBlock, Array.getElem?_modify, Ne.symm hk]
    · simp [Go.Sort.putRow, Go.Sort.mapBlock]
end Sx
