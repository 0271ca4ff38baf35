/- Texts of this law, joined: what the functions do. Conditions: as each theorem says. -/
import Derived.Test.YtdjckiilfplnfaaJsa
import Derived.Test.YtdjckiilfplnfaaEngX4
import Derived.Sort.Statements
import Derived.Shelf.SlicesE.Kit
import Derived.Test.YtdjckiilfplnfaaOwnX5
import Derived.Test.YtdjckiilfplnfaaJp
import Derived.Test.YtdjckiilfplnfaaEngX5
set_option linter.unusedSimpArgs false
set_option linter.unusedVariables false
section
/- Package judge: the library's sort of the vectors. Conditions: as each theorem says. -/
namespace Sx
open Go Go.Proofs
set_option maxRecDepth 100000
theorem cmpR_self (f : Nat → Int) (n : Nat) : ∀ k, cmpR f f n k = 0
  | 0 => rfl
  | k + 1 => by unfold cmpR; rw [if_pos rfl]; exact cmpR_self f n k
theorem cmpR_trans (f g h : Nat → Int) (n : Nat) : ∀ k, cmpR f g n k < 0 → cmpR g h n k < 0 → cmpR f h n k < 0
  | 0 => fun p _ => p
  | k + 1 => by
    have ih := cmpR_trans f g h n k
    simp only [cmpR]
    generalize f (n - (k + 1)) = a
    generalize g (n - (k + 1)) = b
    generalize h (n - (k + 1)) = c
    generalize cmpR f g n k = x at *
    generalize cmpR g h n k = y at *
    generalize cmpR f h n k = z at *
    simp only [cmpI]
    intro p q
    split at p <;> split at q <;> split <;> (repeat' split at p) <;> (repeat' split at q) <;> (repeat' split) <;> first | omega | (exact ih p q)
theorem cmpR_ntrans (f g h : Nat → Int) (n : Nat) : ∀ k, ¬ cmpR f g n k < 0 → ¬ cmpR g h n k < 0 → ¬ cmpR f h n k < 0
  | 0 => fun p _ => p
  | k + 1 => by
    have ih := cmpR_ntrans f g h n k
    simp only [cmpR]
    generalize f (n - (k + 1)) = a
    generalize g (n - (k + 1)) = b
    generalize h (n - (k + 1)) = c
    generalize cmpR f g n k = x at *
    generalize cmpR g h n k = y at *
    generalize cmpR f h n k = z at *
    simp only [cmpI]
    intro p q
    split at p <;> split at q <;> split <;> (repeat' split at p) <;> (repeat' split at q) <;> (repeat' split) <;> first | omega | (exact ih p q)
theorem swo_cmpR {α : Type} (X : α → Nat → Int) (n : Nat) : Go.Sort.SWO fun x y => decide (cmpR (X x) (X y) n n < 0) :=
  ⟨fun x => by rw [cmpR_self]; rfl, fun x y z p q => by simp only [decide_eq_true_eq] at *; exact cmpR_trans _ _ _ n n p q, fun x y z p q => by simp only [decide_eq_false_iff_not] at *; exact cmpR_ntrans _ _ _ n n p q⟩
/-- What is asked of the library's sort. -/
def SortLaw : Prop := ∀ (enc : Nat → Value) (cf : Nat → Nat → Int) (blk off cap : Nat) (d : Array Nat) (w : World), OneCell enc → Go.Sort.SWO (fun x y => decide (cf x y < 0)) →
  (∀ (m : Nat) (os : Array Obj) (dk : Array Nat), dk.size = d.size → ∀ x y : Nat, Calls Try.prog 28 #[enc x, enc y] (Go.Sort.grow (Go.Sort.putRow enc (Go.Sort.ahead w m) blk off dk) os) fun e w' => e = .returned (.int .i64 (cf x y)) ∧ ∃ q, w' = (Go.Sort.grow (Go.Sort.putRow enc (Go.Sort.ahead w m) blk off dk) os).drewN q) →
  Go.Sort.Holds enc w blk off d → blk < w.heap.size → d.size < 4611686018427387904 →
  Calls Try.prog 27 #[.slice (some ⟨blk, off, none⟩) d.size cap, .func (.func 28) #[] #[]] w fun e w' =>
    e = .returned (.tuple #[]) ∧ ∃ d' n os, Go.Sort.PermIn 0 d.size d d' ∧ Go.Sort.SortedIn (fun x y => decide (cf x y < 0)) 0 d.size d' ∧ w' = Go.Sort.grow (Go.Sort.putRow enc (Go.Sort.ahead w n) blk off d') os
def SortNone : Prop := ∀ (p : Option Addr) (cap : Nat) (fv : Value) (w : World), Calls Try.prog 27 #[.slice p 0 cap, fv] w fun e w' => e = .returned (.tuple #[]) ∧ w' = w
/-- A numbering of m rows in their order. -/
structure Ord (m n : Nat) (X : Nat → Nat → Int) (σ : Nat → Nat) : Prop where
  perm : ((List.range m).map σ).Perm (List.range m)
  sorted : ∀ i j, i < j → j < m → ¬ cmpR (X (σ j)) (X (σ i)) n n < 0
theorem Ord.lt {m n : Nat} {X : Nat → Nat → Int} {σ : Nat → Nat} (h : Ord m n X σ) {i : Nat} (hi : i < m) : σ i < m := by
  have : σ i ∈ (List.range m).map σ := List.mem_map.2 ⟨i, List.mem_range.2 hi, rfl⟩
  exact List.mem_range.1 (h.perm.mem_iff.1 this)
theorem sortV_hck (hS : SortLaw) (hN : SortNone) {K : Kn} (m n cap : Nat) (W : Nat → Value) (X : Nat → Nat → Int) (hn1 : 1 ≤ n) (hn : n ≤ 100) (hm : m < 4611686018427387904) (hW : ∀ i, i < m → Froz K (W i) n 1 (urow (X i))) (ty : TypeId) :
    HCK Try.prog K 27 [.sq 0 0 0 1 m .no, .clo (.func 28) [] []] [(0, .row 0 m cap 1 (fun i _ => .val (W i)) ty)] [] 1 (fun σ : Nat → Nat => Ord m n X σ) (fun σ => ⟨.tup [], [(0, .row 0 m cap 1 (fun i _ => .val (W (σ i))) ty)], 1⟩) := by
  intro B β w vs hB hK hvs hs
  obtain ⟨v, vs', rfl, ⟨base, room, rfl, q1, q2, q3, q4⟩, hvs⟩ := hvs
  obtain ⟨v, vs', rfl, ⟨us, ws, rfl, hl1, hl2⟩, rfl⟩ := hvs
  have hl1 : us = [] := hl1
  have hl2 : ws = [] := hl2
  subst hl1
  subst hl2
  rcases Nat.eq_zero_or_pos m with h0 | h0
  · subst h0
    refine (hN base room _ w).mono ?_
    rintro e w' ⟨rfl, rfl⟩
    exact ⟨id, β, .tuple #[], ⟨.refl _, fun i j _ h => absurd h (Nat.not_lt_zero _)⟩, Env.le_refl _, rfl, ⟨[], rfl, rfl⟩, hs⟩
  · obtain ⟨r1, b, r2, rfl, r3⟩ := q4 h0
    obtain ⟨b', ob, g1, g2, g3, g4, g5⟩ := hs.own 0 _ rfl h0
    rw [r2] at g1; injection g1 with g1; subst g1
    obtain ⟨c, fz, tt, c0, rfl, c1, c2, c3⟩ := g4
    have hfz : fz = (0, 0) := g5.l
    subst hfz
    have hlt : b < w.heap.size := (Array.getElem?_eq_some_iff.1 g3).1
    have hcell : ∀ j, j < m → c[j]? = some (W j) := by
      intro j hj
      obtain ⟨u, hu1, hu2⟩ := c3 j 0 hj (by omega)
      have hu2 : u = W j := hu2.1
      rw [hu2] at hu1
      simpa using hu1
    obtain ⟨T, hT⟩ : ∃ T : Nat → Nat, T = fun i => min i (m - 1) := ⟨_, rfl⟩
    have hTm : ∀ i, T i < m := fun i => by rw [hT]; show min i (m - 1) < m; omega
    have hTi : ∀ i, i < m → T i = i := fun i hi => by rw [hT]; show min i (m - 1) = i; omega
    have hd : ∀ j, j < m → (Array.range m)[j]! = j := fun j hj => by simp [hj]
    have hH : Go.Sort.Holds (fun i => W (T i)) w b (0 + 0 * 1) (Array.range m) := by
      intro j hj
      have hj : j < m := by simpa using hj
      refine ⟨?_, by simp [World.frozen?, g3]⟩
      simp only [World.cell?, g3, Option.isSome_none, Bool.false_eq_true, if_false]
      rw [show 0 + 0 * 1 + j = j by omega, hcell j hj, hd j hj, hTi j hj]
    have hcs : (Array.range m).size = m := Array.size_range
    have hKb : ∀ x o, K x = some o → x ≠ b := fun x o e q => by
      have := hK x o e
      rw [q, g2] at this; cases this
    have hone : OneCell fun i => W (T i) := fun i => by
      obtain ⟨ba, ro, e1, _⟩ := hW (T i) (hTm i)
      show (W (T i)).oneCell' = true
      rw [e1]; rfl
    have hcall := hS (fun i => W (T i)) (fun x y => cmpR (X (T x)) (X (T y)) n n) b (0 + 0 * 1) room (Array.range m) w hone (swo_cmpR (fun i => X (T i)) n) (fun p os dk hdk x y => by
      obtain ⟨ba, ro, e1, _, e3⟩ := hW (T x) (hTm x)
      obtain ⟨_, b1, o1, cc1, t1, z1, e4, e5, e6⟩ := e3 (by omega)
      obtain ⟨ba', ro', f1, _, f3⟩ := hW (T y) (hTm y)
      obtain ⟨_, b2, o2, cc2, t2, z2, f4, f5, f6⟩ := f3 (by omega)
      have hcellK : ∀ (bb : Nat) (cc : Array Value) (t : TypeId) (z : Nat × Nat), K bb = some (.cells cc t z) → ∀ oo, (Go.Sort.grow (Go.Sort.putRow (fun i => W (T i)) (Go.Sort.ahead w p) b (0 + 0 * 1) dk) os).cell? ⟨bb, oo, none⟩ = cc[oo]? := by
        intro bb cc t z hbb oo
        have h1 := hs.old bb _ (hK bb _ hbb)
        have hltb : bb < w.heap.size := (Array.getElem?_eq_some_iff.1 h1).1
        rw [Go.Sort.cell?_grow _ _ _ (by simpa using hltb), Go.Sort.cell?_putRow_other _ _ _ _ _ _ (.inl (hKb bb _ hbb))]
        simp [World.cell?, Go.Sort.ahead, h1]
      have := jCompare b1 o1 ro b2 o2 ro' n (X (T x)) (X (T y)) (Go.Sort.grow (Go.Sort.putRow (fun i => W (T i)) (Go.Sort.ahead w p) b (0 + 0 * 1) dk) os) hn (fun j hj => by
        rw [hcellK b1 cc1 t1 z1 e5]
        obtain ⟨u, u1, u2⟩ := e6 j 0 hj (by omega)
        have u2 : u = .int .i64 (X (T x) j) := u2
        rw [← u2, ← u1]; congr 1; omega) (fun j hj => by
        rw [hcellK b2 cc2 t2 z2 f5]
        obtain ⟨u, u1, u2⟩ := f6 j 0 hj (by omega)
        have u2 : u = .int .i64 (X (T y) j) := u2
        rw [← u2, ← u1]; congr 1; omega)
      rw [e1, e4, f1, f4]
      exact this) hH hlt (by rw [hcs]; exact hm)
    rw [hcs] at hcall
    refine hcall.mono ?_
    rintro e w' ⟨rfl, d', k, os, ⟨p1, p2, p3⟩, p4, rfl⟩
    rw [hcs] at p1
    have hd'l : d'.toList.Perm (List.range m) := by
      have e1 : d'.extract 0 m = d' := by rw [← p1]; simp
      have e2 : (Array.range m).extract 0 m = Array.range m := by
        have := Array.extract_size (xs := Array.range m)
        rw [hcs] at this; exact this
      rw [e1, e2] at p3
      simpa [Array.toList_range] using p3
    have hmap : (List.range m).map (fun i => d'[i]!) = d'.toList := by
      apply List.ext_getElem
      · simp [p1]
      · intro i h1 h2
        have h3 : i < d'.size := by simpa using h2
        simp [h3]
    have hO : Ord m n X (fun i => d'[i]!) := by
      have hlt2 : ∀ i, i < m → d'[i]! < m := fun i hi => by
        have h3 : i < d'.size := by rw [p1]; exact hi
        have : d'[i]! ∈ d'.toList := by rw [getElem!_pos d' i h3]; simp
        exact List.mem_range.1 (hd'l.mem_iff.1 this)
      refine ⟨by rw [hmap]; exact hd'l, fun i j hij hj => ?_⟩
      have := p4 i j (Nat.zero_le _) hij hj
      simp only [decide_eq_false_iff_not] at this
      rw [hTi _ (hlt2 i (by omega)), hTi _ (hlt2 j hj)] at this
      exact this
    refine ⟨fun i => d'[i]!, β, .tuple #[], hO, Env.le_refl _, rfl, ⟨[], rfl, rfl⟩, ⟨Mem.grow ?_ os, hs.fresh⟩⟩
    have hset' : hset 0 (.row 0 m cap 1 (fun i _ => .val (W (d'[i]!))) ty) [(0, .row 0 m cap 1 (fun i _ => .val (W i)) ty)] = some [(0, .row 0 m cap 1 (fun i _ => .val (W (d'[i]!))) ty)] := rfl
    refine (hs.toMem.ahead k).set hset' ⟨rfl, h0⟩ r2 (ob := .cells (Go.Sort.putCells (fun i => W (T i)) (0 + 0 * 1) d' c) tt (0, 0)) ?_ ⟨rfl, ?_⟩ ?_ ?_ ?_ rfl rfl rfl
    · refine ⟨_, (0, 0), tt, c0, rfl, c1, by simpa [Go.Sort.putCells] using c2, fun i k hi hk => ?_⟩
      have hk0 : k = 0 := by omega
      subst hk0
      refine ⟨W (d'[i]!), ?_, rfl, by have := hone (d'[i]!); rwa [show (fun i => W (T i)) (d'[i]!) = W (d'[i]!) by show W (T (d'[i]!)) = _; rw [hTi _ (hO.lt hi)]] at this⟩
      rw [show 0 + i * 1 + 0 = i by omega]
      simp only [Go.Sort.putCells, Array.getElem?_mapIdx, hcell i hi, Option.map_some]
      rw [if_pos ⟨by omega, by rw [p1]; omega⟩]
      rw [show i - (0 + 0 * 1) = i by omega, hTi _ (hO.lt hi)]
    · have := g5.s
      simpa [Go.Sort.putCells, osize] using this
    · simp [Go.Sort.putRow, Go.Sort.mapBlock, Array.getElem?_modify, g3, Go.Sort.onCells]
    · intro k hk
      simp [Go.Sort.putRow, Go.Sort.mapBlock, Array.getElem?_modify, Ne.symm hk]
    · simp [Go.Sort.putRow, Go.Sort.mapBlock]
end Sx
end
section
/- Package judge: Finals. Conditions: as each theorem says. -/
namespace Sx
open Go Go.Proofs
set_option maxRecDepth 100000
set_option pp.deepTerms true
set_option pp.maxSteps 10000000
theorem app_vrow (W : Nat → Value) (cw : Value) (n i : Nat) (hi : i < n + 1) : Less (vrow (fun q => if q = n then cw else W q) i 0) (appF (vrow W) n (fun i k => [SV.val cw][i + k]?.getD SV.und) i 0) := by
  refine Less.of ?_
  unfold appF
  by_cases h : i < n
  · have hb : Nat.blt i n = true := by simpa [Nat.blt_eq] using h
    have hne : i ≠ n := by omega
    rw [hb, cond_true]
    unfold vrow
    dsimp only
    rw [if_neg hne]
  · have : i = n := by omega
    subst this
    have hb : Nat.blt i i = false := by
      cases hq : Nat.blt i i with
      | false => rfl
      | true => rw [Nat.blt_eq] at hq; omega
    rw [hb, cond_false, Nat.sub_self]
    unfold vrow
    dsimp only
    rw [if_pos rfl]
    rfl
/-- The vectors met so far, in their order. -/
def CX (L : MO) (S : List Int → Bool) (X : List (List Int)) : Prop := (∀ v, S v = true ↔ v ∈ X) ∧ X.Nodup ∧ ∀ v ∈ X, (lget L v).isSome = true
theorem cx_zero (L : MO) : CX L (fun _ => false) [] := ⟨fun v => by simp, List.nodup_nil, fun _ h => by cases h⟩
theorem cx_step {L : MO} {S : List Int → Bool} {X : List (List Int)} (h : CX L S X) {a : List Int} (hS : S a = false) (hL : (lget L a).isSome = true) : CX L (fun x => decide (x = a) || S x) (X ++ [a]) := by
  obtain ⟨h1, h2, h3⟩ := h
  refine ⟨fun v => ?_, ?_, fun v hv => ?_⟩
  · rw [Bool.or_eq_true, decide_eq_true_iff, h1 v, List.mem_append, List.mem_singleton, or_comm]
  · rw [List.nodup_append]
    refine ⟨h2, by simp, fun x hx y hy => ?_⟩
    rw [List.mem_singleton] at hy
    rintro rfl
    rw [hy, ← h1 a, hS] at hx
    cases hx
  · rw [List.mem_append, List.mem_singleton] at hv
    rcases hv with hv | hv
    · exact h3 v hv
    · rw [hv]; exact hL
/-- A list of vectors, as it lies. -/
def VLs (K : Kn) (n : Nat) (z : Value × List (List Int) × (Nat → Value)) : Prop := Froz K z.1 z.2.1.length 1 (vrow z.2.2) ∧ ∀ i, i < z.2.1.length → Froz K (z.2.2 i) n 1 (urow (fun k => (z.2.1.getD i []).getD k 0))
theorem fins_of {H : Hi} (hv : VHi H) {u : Int} (hlong : ∀ e, e ≤ H.nc → lenE H u e ≤ 12) {X : List (List Int)} (hX : X.Nodup) (hF : ∀ v, v ∈ X ↔ FS H u (H.nc + 1) v) {σ : Nat → Nat} (ho : Ord X.length H.unit.toNat (fun i k => (X.getD i []).getD k 0) σ) :
    FinS H u ((List.range X.length).map fun i => X.getD (σ i) []) := by
  have hmem : ((List.range X.length).map fun i => X.getD (σ i) []).Perm X := by
    have h1 := ho.perm.map fun i => X.getD i []
    rw [List.map_map] at h1
    refine h1.trans ?_
    have : (List.range X.length).map (fun i => X.getD i []) = X := by
      apply List.ext_getElem
      · simp
      · intro i a b
        rw [List.getElem_map, List.getElem_range, List.getD_eq_getElem?_getD, List.getElem?_eq_getElem b]; rfl
    rw [this]
  refine ⟨?_, fun v => (hmem.mem_iff).trans (hF v)⟩
  rw [List.pairwise_iff_getElem]
  intro i j hi hj hij
  have hnd := hmem.nodup_iff.2 hX
  rw [List.length_map, List.length_range] at hi hj
  rw [List.getElem_map, List.getElem_map, List.getElem_range, List.getElem_range]
  have h1 := ho.sorted i j hij hj
  unfold ltV
  rcases Int.lt_or_le (cmpR (fun k => (X.getD (σ i) []).getD k 0) (fun k => (X.getD (σ j) []).getD k 0) H.unit.toNat H.unit.toNat) 0 with q | q
  · exact q
  · exfalso
    have hin : ∀ t, t < X.length → X.getD (σ t) [] ∈ X := fun t ht => by
      have := ho.lt ht
      rw [List.getD_eq_getElem?_getD, List.getElem?_eq_getElem this]; exact List.getElem_mem this
    have va := fs_vok hv hlong _ (Nat.le_refl _) _ ((hF _).1 (hin i hi))
    have vb := fs_vok hv hlong _ (Nat.le_refl _) _ ((hF _).1 (hin j hj))
    have hz := cmpR_anti (fun k => (X.getD (σ i) []).getD k 0) (fun k => (X.getD (σ j) []).getD k 0) H.unit.toNat H.unit.toNat q h1
    have heq : X.getD (σ i) [] = X.getD (σ j) [] := ext8 va.len vb.len fun k _ => by
      by_cases hk : k < H.unit.toNat
      · exact hz k (by omega) hk
      · rw [va.hi k (by omega), vb.hi k (by omega)]
    have := (List.nodup_iff_pairwise_ne.1 hnd)
    rw [List.pairwise_iff_getElem] at this
    have := this i j (by simpa using hi) (by simpa using hj) hij
    rw [List.getElem_map, List.getElem_map, List.getElem_range, List.getElem_range] at this
    exact this heq
set_option maxHeartbeats 8000000 in
theorem finals13_hcx (hSL : SortLaw) (hSN : SortNone) {K : Kn} {H : Hi} {vo vc : Value} {V : Nat → Value} (h : HOK K H vo vc V) (hv : VHi H) (hnc24 : H.nc ≤ 24) (u : Nat) (hu : u < nU H) (hlong : ∀ e, e ≤ H.nc → lenE H (u : Nat) e ≤ 12) (hvf : ∀ i, i < H.m → ∀ k, k < (H.op i).n → Fits .i64 ((H.op i).v k)) (hpw : (H.m + 1) ^ H.unit.toNat ≤ 1000000000000) :
    HCX Try.prog K M0 13 [hA H vo vc, i64 u] [] [] 0 (fun (z : Value × List (List Int) × (Nat → Value)) K' => VLs K' H.unit.toNat z ∧ FinS H u z.2.1) (fun z => ⟨.tup [.val z.1, i64 0], [], 0⟩) := by
  have hct : ∀ X : List (List Int), X.Nodup → (∀ v ∈ X, FS H (u : Nat) (H.nc + 1) v) → X.length ≤ 1000000000000 := fun X hX hm => Nat.le_trans (vok_count hv X hX fun v hx => fs_vok hv hlong _ (Nat.le_refl _) v (hm v hx)) hpw
  have h1 := hv.u1
  have hu8 := hv.u8
  have h2 := hv.b1
  have hnU := units_le hv
  have hb2 := hv.b2
  have hum := units_mul hv
  have hdiv : H.blocks / H.unit = (nU H : Int) := by
    unfold nU
    rw [Int.toNat_of_nonneg (Int.ediv_nonneg (by omega) (by omega))]
  have hub : ((u : Int) + 1) * H.unit ≤ H.blocks := by
    rw [← hum]; exact Int.mul_le_mul_of_nonneg_right (by omega) (by omega)
  refine hcx_of_run Try.func13 rfl (fun B hB hK hpin => ?_)
  have hF0 : Fz B K M0 B K := .refl hB hK
  refine goT hB [] 400 rfl (by first | exact conj_nil | simp [conj]) ?_
  refine run_callCK (valid_hck h true (by simp [hv])) named hB hK [] rfl rfl rfl rfl (by first | exact conj_nil | simp [conj]) (by simp [conj, less_rfl]) ?_
  rintro ⟨⟩ _
  refine ⟨show 0 ≤ 0 by omega, _, _, _, rfl, rfl, rfl, ?_⟩
  refine goT hB [(13, 16)] 400 rfl (by first | exact conj_nil | simp [conj]) ?_
  refine run_ff (by simp) ?_
  refine goT hB [(13, 24)] 400 rfl (by simp [conj, Fits_i64, hdiv]; omega) ?_
  rw [hdiv]
  refine run_ff (by simp; omega) ?_
  refine goT hB [] 400 rfl (by first | exact conj_nil | simp [conj]) ?_
  refine run_callCK (finals_hck h hv hnc24 (u : Int) (by omega) hub hvf) named hB hK [] rfl rfl rfl rfl (by first | exact conj_nil | simp [conj]) (by simp [conj, less_rfl]) ?_
  rintro (_ | L) hz
  · obtain ⟨e, he, hl⟩ := hz
    have := hlong e he
    omega
  · obtain ⟨_, hL, hFS⟩ := hz
    refine ⟨show 0 ≤ 1 by omega, _, _, _, rfl, rfl, rfl, ?_⟩
    refine goT hB [] 400 rfl (by first | exact conj_nil | simp [conj]) ?_
    refine run_grange hB (es := arrM encV L) (clock := L.length) rfl rfl rfl (by first | exact conj_nil | simp [conj]) u53b rfl rfl ?_
    refine goT hB [] 400 rfl (by first | exact conj_nil | simp [conj]) ?_
    refine run_loop ?_
    refine run_to hpin [0, 1, 2, 3] (nx' := 4) (rest' := []) (sl' := [(36, .ptr 2 0), (8, .sq 3 0 0 1 0 .own), (2, .ptr 0 0)]) (hp' := [(3, .row 0 0 0 1 (vrow fun _ => vo) 23), (2, .mit 1 L.length #[] L.length), (1, mobj L), (0, hC H vo vc)]) rfl rfl (by simp [conj, less_rfl, ren_vrow, renR_vrow]) ?_
    refine run_invX (ι := Array Nat × (List Int → Bool) × List (List Int) × (Nat → Value)) hF0 hpin (fun x K' => SeenG encV (arrM encV L) x.1 x.2.1 ∧ CX L x.2.1 x.2.2.1 ∧ ∀ i, i < x.2.2.1.length → Froz K' (x.2.2.2 i) H.unit.toNat 1 (urow (fun k => (x.2.2.1.getD i []).getD k 0))) (fun x => (leftOf (arrM encV L) x.1).size)
      (fun x => [(36, .ptr 2 0), (8, .sq 3 0 0 1 x.2.2.1.length .own), (2, .ptr 0 0)]) (fun _ => [])
      (fun x => [(3, .row 0 x.2.2.1.length x.2.2.1.length 1 (vrow x.2.2.2) 23), (2, .mit 1 L.length x.1 L.length), (1, mobj L), (0, hC H vo vc)])
      (#[], fun _ => false, [], fun _ => vo) ⟨seenG_zero _ _, cx_zero L, fun i hi => absurd hi (Nat.not_lt_zero _)⟩ ?_
    rintro ⟨seen, S, X, W⟩ B1 K1 hF1 hpin1 ⟨hS, hX, hW⟩ ih
    dsimp only at hS hX hW ih ⊢
    have hB1 := hF1.ok
    have hK1 := hF1.le
    have E := hL.gm encV_ok
    refine goT hB1 [] 400 rfl (by clear ih; first | exact conj_nil | simp [conj]) ?_
    refine run_gnext encV_ok E hS rfl rfl rfl (by first | exact conj_nil | simp [conj]) rfl rfl (fun hall => ⟨_, rfl, ?_⟩) (fun a bv seen' hoka hab hSa hS' hLa hlt => ⟨_, _, rfl, rfl, ?_⟩)
    · clear ih
      refine goT hB1 [] 400 rfl (by first | exact conj_nil | simp [conj]) ?_
      have hXF : ∀ v, v ∈ X ↔ FS H (u : Nat) (H.nc + 1) v := fun v => by
        rw [← hFS v, ← hX.1 v]
        constructor
        · intro q; exact hX.2.2 v ((hX.1 v).1 q)
        · intro q
          cases e : lget L v with
          | none => rw [e] at q; cases q
          | some b => exact hall v b e
      have hXl := hct X hX.2.1 fun v q => (hXF v).1 q
      refine run_callCK (sortV_hck hSL hSN X.length H.unit.toNat X.length W (fun i k => (X.getD i []).getD k 0) (by omega) (by omega) (by omega) (fun i hi => hW i hi) 23) named hB1 hK1 [3] rfl rfl rfl rfl (by first | exact conj_nil | simp [conj]) (by simp [conj, less_rfl, vrow, ren, renF]) ?_
      rintro σ hσ
      refine ⟨show 1 ≤ 1 by omega, _, _, _, rfl, rfl, rfl, ?_⟩
      refine goT hB1 [] 400 rfl (by first | exact conj_nil | simp [conj]) ?_
      refine run_freeze hB1 hK1 4 rfl rfl (Nat.le_refl _) (fun a c _ _ => rfl) rfl (fun v5 B5 K5 hv5 hF5 hp5 => ?_)
      refine run_retF (hF1.trans0 hF5 hK fun _ h => h.elim) (hpin1.fz hF5 hp5) (v5, (List.range X.length).map (fun i => X.getD (σ i) []), fun i => W (σ i)) ⟨⟨by
        show Froz K5 v5 ((List.range X.length).map fun i => X.getD (σ i) []).length 1 (vrow fun i => W (σ i))
        rw [List.length_map, List.length_range]; exact hv5, fun i hi => by
          dsimp only at hi ⊢
          rw [List.length_map, List.length_range] at hi
          have := (hW (σ i) (hσ.lt hi)).fz hF5
          rw [List.getD_eq_getElem?_getD, List.getElem?_map, List.getElem?_range hi]
          exact this⟩, fins_of hv hlong hX.2.1 hXF hσ⟩ [] rfl rfl (by first | exact conj_nil | simp [conj]) rfl ?_
      simp [conj, less_rfl]
    · have h8a := hoka.1
      match a, h8a with
      | [a0, a1, a2, a3, a4, a5, a6, a7], _ =>
      refine goT hB1 [] 400 rfl (by clear ih; first | exact conj_nil | simp [conj]) ?_
      refine run_gentry encV_ok E hLa hab rfl rfl rfl (by first | exact conj_nil | simp [conj]) rfl rfl rfl ?_
      refine goT hB1 [] 400 rfl (by clear ih; simp [conj, Fits_i64]; omega) ?_
      refine run_to hpin1 [0, 1, 2, 3, 4] (nx' := 5) (rest' := []) (sl' := [(44, .sq 4 0 0 1 H.unit.toNat .no), (41, .sq 3 0 0 1 X.length .own), (36, .ptr 2 0), (2, .ptr 0 0)]) (hp' := [(4, .row 0 8 8 1 (urow fun k => [a0, a1, a2, a3, a4, a5, a6, a7].getD k 0) 57), (3, .row 0 X.length X.length 1 (vrow W) 23), (2, .mit 1 L.length seen' L.length), (1, mobj L), (0, hC H vo vc)]) rfl rfl (by
        clear ih
        simp [conj, less_rfl, ren_vrow, renR_vrow, ren_urow, renR_urow]
        refine ⟨by kernel_rfl, fun i hi => ?_⟩
        match i, hi with
        | 0, _ | 1, _ | 2, _ | 3, _ | 4, _ | 5, _ | 6, _ | 7, _ => exact ⟨_, rfl, .rfl⟩) ?_
      refine run_freeze hB1 hK1 44 rfl rfl (by omega) (fun _ _ _ _ => rfl) rfl (fun w B2 K2 hw hF2 hp2 => ?_)
      have hB2 := hF2.ok
      have hK2 := hF2.le
      have hpin2 := hpin1.fz hF2 hp2
      refine run_callX (cloneV_hcx K2 w H.unit.toNat (fun k => [a0, a1, a2, a3, a4, a5, a6, a7].getD k 0) (by omega) hw) named hB2 hK2 (fun _ h => h.elim) (.inr fun _ h => h) [] rfl rfl rfl rfl (by first | exact conj_nil | simp [conj]) (by clear ih; simp [conj, less_rfl]) ?_
      rintro cw B3 K3 hcw hF3 hp3
      have hF3' := (hF1.trans0 hF2 hK fun _ h => h.elim).trans0 hF3 hK fun _ h => h.elim
      have hB3 := hF3.ok
      have hpin3 := hpin2.fz hF3 hp3
      refine ⟨show 0 ≤ 0 by omega, _, _, _, rfl, rfl, rfl, ?_⟩
      have hXl : X.length + 1 ≤ 1000000000000 := by
        have c := cx_step hX hSa (by rw [hab]; rfl)
        have := hct _ c.2.1 (fun v hv => (hFS v).1 (c.2.2 v hv))
        rwa [List.length_append, List.length_singleton] at this
      have ih := ih (seen', fun x => decide (x = [a0, a1, a2, a3, a4, a5, a6, a7]) || S x, X ++ [[a0, a1, a2, a3, a4, a5, a6, a7]], fun q => if q = X.length then cw else W q) B3 K3 hF3' hpin3 ⟨hS', cx_step hX hSa (by rw [hab]; rfl), fun i hi => by
        dsimp only at hi ⊢
        rw [List.length_append, List.length_singleton] at hi
        by_cases q : i = X.length
        · rw [if_pos q, q]
          simpa using hcw
        · rw [if_neg q, List.getD_eq_getElem?_getD, List.getElem?_append_left (by omega), ← List.getD_eq_getElem?_getD]
          exact ((hW i (by omega)).fz hF2).fz hF3⟩ hlt
      dsimp only at ih
      rw [List.length_append, List.length_singleton] at ih
      refine goT hB3 [] 400 rfl (by clear ih; simp [conj]; omega) ?_
      refine run_back ?_
      refine run_to hpin3 [0, 1, 2, 6] rfl rfl ?_ ih
      clear ih
      simp [conj, less_rfl, ren_vrow, renR_vrow]
      exact fun i hi => app_vrow W cw X.length i hi
end Sx
end
section
/- Chapter 47's reference: Valid, whole; Same at equal lists. Conditions: as each theorem says. -/
namespace Sx
open Go Go.Proofs
set_option maxRecDepth 100000
set_option pp.deepTerms true
set_option pp.maxSteps 10000000
set_option maxHeartbeats 4000000 in
theorem lessE_hc (o1 o2 n : Nat) (hn : n ≤ 100) (f : Nat → Int) :
    HC Try.prog 29 [.sq 0 o1 0 1 n .no, .sq 1 o2 0 1 n .no] [] [(0, .row o1 n n 1 (urow f) anyTy), (1, .row o2 n n 1 (urow f) anyTy)] 2 (fun _ : Unit => True) (fun _ => ⟨.ff, [], 2⟩) := by
  refine hc_of_run Try.func29 rfl (fun B hB hpin => ?_)
  refine goT hB [] 400 rfl (by first | exact conj_nil | simp [conj]) ?_
  refine run_loop ?_
  refine run_inv (ι := Nat) hpin (fun i => i ≤ n) (fun i => n - i)
    (fun i => [(5, i64 i), (1, .sq 1 o2 0 1 n .no), (0, .sq 0 o1 0 1 n .no)]) (fun _ => []) (fun _ => []) 2 0 (Nat.zero_le _) [0, 1] rfl rfl (by simp [conj, less_rfl, ren_urow, renR_urow]) ?_
  rintro i hi ih
  refine goT hB [(29, 9)] 400 rfl (by clear ih; first | exact conj_nil | simp [conj]) ?_
  by_cases hin : i < n
  · have ih := ih (i + 1) (by omega) (by omega)
    refine run_tt (by simpa using hin) ?_
    refine goT hB [(29, 20)] 400 rfl (by clear ih; simp [conj, hin]) ?_
    refine run_ff (by simp) ?_
    refine goT hB [] 400 rfl (by clear ih; simp [conj, Fits_i64]; omega) ?_
    refine run_back ?_
    refine run_to hpin [0, 1] rfl rfl ?_ ih
    clear ih
    simp [conj, less_rfl, ren_urow, renR_urow]
  · clear ih
    refine run_ff (by simpa using hin) ?_
    refine goT hB [] 400 rfl (by first | exact conj_nil | simp [conj]) ?_
    refine run_retC hpin () trivial [0, 1] rfl rfl (by first | exact conj_nil | simp [conj]) rfl ?_
    simp [conj, less_rfl, ren_urow, renR_urow]
set_option maxHeartbeats 4000000 in
theorem sameE_hck {K : Kn} (av bv : Value) (W W' : Nat → Value) (X : List (List Int)) (n : Nat) (hn1 : 0 < n) (hn : n ≤ 100) (ha : VLs K n (av, X, W)) (hb : VLs K n (bv, X, W')) (hX : X.length ≤ 9223372036854775806) :
    HCK Try.prog K 15 [.val av, .val bv] [] [] 0 (fun _ : Unit => True) (fun _ => ⟨.tt, [], 0⟩) := by
  obtain ⟨ha1, ha2⟩ := ha
  obtain ⟨hb1, hb2⟩ := hb
  dsimp only at ha1 ha2 hb1 hb2
  refine hck_of_run Try.func15 rfl (fun B hB hK hpin => ?_)
  refine goT hB [] 400 rfl (by first | exact conj_nil | simp [conj]) ?_
  refine run_open hK 6 ha1 (by decide) rfl (fun o1 => ?_)
  refine goT hB [] 400 rfl (by first | exact conj_nil | simp [conj]) ?_
  refine run_open hK 8 hb1 (by decide) rfl (fun o2 => ?_)
  refine goT hB [(15, 10)] 400 rfl (by first | exact conj_nil | simp [conj]) ?_
  refine run_ff (by simp) ?_
  refine run_close (.inl rfl) ?_
  refine run_close (.inl rfl) ?_
  refine goT hB [] 400 rfl (by first | exact conj_nil | simp [conj]) ?_
  refine run_loop ?_
  refine run_inv (ι := Nat × Value × Value) hpin (fun x => x.1 ≤ X.length ∧ Froz K x.2.1 X.length 1 (vrow W) ∧ Froz K x.2.2 X.length 1 (vrow W')) (fun x => X.length - x.1) (fun x => [(5, i64 x.1), (1, .val x.2.2), (0, .val x.2.1)]) (fun _ => []) (fun _ => []) 0 (0, av, bv) ⟨Nat.zero_le _, ha1, hb1⟩ [] rfl rfl (by simp [conj, less_rfl]) ?_
  clear ha1 hb1
  rintro ⟨i, av, bv⟩ ⟨hi, ha1, hb1⟩ ih
  dsimp only at hi ha1 hb1 ih ⊢
  refine goT hB [] 400 rfl (by clear ih; first | exact conj_nil | simp [conj]) ?_
  refine run_open hK 12 ha1 (by decide) rfl (fun o3 => ?_)
  refine goT hB [(15, 14)] 400 rfl (by clear ih; first | exact conj_nil | simp [conj]) ?_
  refine run_close (.inl rfl) ?_
  by_cases hin : i < X.length
  · have e0 : 0 + ((i : Nat) : Int).toNat = i := by omega
    refine run_tt (by simpa using hin) ?_
    refine run_openSP hK 0 ha1 hin rfl (ha2 i hin) rfl hpin (Nat.zero_le _) (fun p1 p2 B1 hM1 hD1 hpin1 hk1 => ?_)
    have hB1 : B1.ok := by intro x o hx; rw [hM1.w]; rw [hD1] at hx; exact hB x o hx
    have hK1 : ∀ b o, K b = some o → B1.D b = some o := fun b o e => by rw [hD1]; exact hK b o e
    refine run_openSP hK1 1 hb1 hin rfl (hb2 i hin) rfl hpin1 (Nat.le_refl _) (fun p3 p4 B2 hM2 hD2 hpin2 hk2 => ?_)
    have hB2 : B2.ok := by intro x o hx; rw [hM2.w]; rw [hD2] at hx; exact hB1 x o hx
    have hK2 : ∀ b o, K b = some o → B2.D b = some o := fun b o e => by rw [hD2]; exact hK1 b o e
    refine goT hB2 [] 6 rfl (by clear ih; first | exact conj_nil | simp [conj]) ?_
    refine run_draw0 mixed (fun t => ?_)
    refine run_drawK (M := modeJ) (kn := K) hK2 1 12 rfl named hB2 (sumOk_nil _) [] trivial rfl rfl rfl rfl rfl rfl (by clear ih; simp [conj, hin, e0]) (fun t => ?_)
    refine run_ff (by simp) ?_
    refine run_drawK (M := modeJ) (kn := K) hK2 1 11 rfl named hB2 (sumOk_nil _) [(25, ⟨29, [.sq 0 p2 0 1 n .no, .sq 1 p4 0 1 n .no], [], [(0, .row p2 n n 1 (urow fun k => (X.getD i []).getD k 0) anyTy), (1, .row p4 n n 1 (urow fun k => (X.getD i []).getD k 0) anyTy)], 2, .ff, [], 2, [1, 3]⟩)] ⟨⟨hck_of_hc (lessE_hc p2 p4 n hn _), rfl, Nat.le_refl _⟩, trivial⟩ rfl rfl rfl rfl rfl rfl (by clear ih; simp [conj, hin, e0, less_rfl, SO.Live, ren_urow, renR_urow]; exact ⟨.inl hn1, .inl hn1⟩) (fun t => ?_)
    refine run_drawK (M := modeJ) (kn := K) hK2 1 10 rfl named hB2 (sumOk_nil _) [(36, ⟨29, [.sq 0 p4 0 1 n .no, .sq 1 p2 0 1 n .no], [], [(0, .row p4 n n 1 (urow fun k => (X.getD i []).getD k 0) anyTy), (1, .row p2 n n 1 (urow fun k => (X.getD i []).getD k 0) anyTy)], 2, .ff, [], 2, [3, 1]⟩)] ⟨⟨hck_of_hc (lessE_hc p4 p2 n hn _), rfl, Nat.le_refl _⟩, trivial⟩ rfl rfl rfl rfl rfl rfl (by clear ih; simp [conj, hin, e0, less_rfl, SO.Live, ren_urow, renR_urow]; exact ⟨.inl hn1, .inl hn1⟩) (fun t => ?_)
    refine run_drawE rfl ?_
    refine goT hB2 [] 400 rfl (by clear ih; simp [conj, Fits_i64]; omega) ?_
    refine run_back ?_
    refine run_shutS (K := K) (r := 2) (off := p1) (sz := 1) (m := X.length) (ap := .no) (g := vrow W) (fun _ => by
      obtain ⟨b, c, tt, fz, g1, g2, g3⟩ := hk1
      exact ⟨b, c, tt, fz, hM2.pin _ _ g1, g2, g3⟩) 0 rfl (fun av2 hav2 => ?_)
    refine run_shutS (K := K) (r := 4) (off := p3) (sz := 1) (m := X.length) (ap := .no) (g := vrow W') (fun _ => hk2) 1 rfl (fun bv2 hbv2 => ?_)
    refine run_close (.inl rfl) ?_
    refine run_close (.inl rfl) ?_
    refine run_close (.inl rfl) ?_
    refine run_close (.inl rfl) ?_
    refine run_unpin hM2 ?_
    refine run_unpin hM1 ?_
    have ih := ih (i + 1, av2, bv2) ⟨hin, hav2, hbv2⟩ (by show X.length - (i + 1) < X.length - i; omega)
    dsimp only at ih
    refine run_to hpin [] rfl rfl ?_ ih
    clear ih
    simp [conj, less_rfl]
  · clear ih
    refine run_ff (by simpa using hin) ?_
    refine goT hB [] 400 rfl (by first | exact conj_nil | simp [conj]) ?_
    refine run_retC hpin () trivial [] rfl rfl (by first | exact conj_nil | simp [conj]) rfl ?_
    simp [conj, less_rfl]
end Sx
end
section
/- Chapter 47's reference: what its search gives. Conditions: as each theorem says. -/
namespace Sx
open Go Go.Proofs
theorem mask_sub (p : Nat → Bool) (n A : Nat) : A &&& maskN p n = maskN p n ↔ ∀ j, j < n → p j = true → A.testBit j = true := by
  constructor
  · intro h j hj hp
    have := congrArg (fun x => x.testBit j) h
    simp only [Nat.testBit_and, maskN_bit, decide_eq_true hj, hp, Bool.true_and, Bool.and_true] at this
    exact this
  · intro h
    apply Nat.eq_of_testBit_eq
    intro j
    rw [Nat.testBit_and, maskN_bit]
    by_cases hj : j < n
    · cases hp : p j with
      | true => rw [h j hj hp]; rfl
      | false => simp
    · simp [hj]
theorem andn_bit (b A j : Nat) (hb : b < 65536) : (andn b A).testBit j = (b.testBit j && !A.testBit j) := by
  unfold andn
  rw [BitVec.testBit_toNat, BitVec.getLsbD_and, BitVec.getLsbD_not, BitVec.getLsbD_ofNat, BitVec.getLsbD_ofNat]
  by_cases hj : j < 16
  · simp [hj]
  · have : b.testBit j = false := by
      apply Nat.testBit_lt_two_pow
      exact Nat.lt_of_lt_of_le hb (Nat.pow_le_pow_right (n := 2) (by decide) (show 16 ≤ j by omega))
    simp [this]
theorem andn_zero (p : Nat → Bool) (n A : Nat) (hn : n ≤ 16) : andn (maskN p n) A = 0 ↔ ∀ j, j < n → p j = true → A.testBit j = true := by
  have hb := maskN_lt p n hn
  constructor
  · intro h j hj hp
    have := congrArg (fun x => x.testBit j) h
    simp only [andn_bit _ _ _ hb, maskN_bit, decide_eq_true hj, hp, Bool.true_and, Nat.zero_testBit, Bool.not_eq_false'] at this
    exact this
  · intro h
    apply Nat.eq_of_testBit_eq
    intro j
    rw [andn_bit _ _ _ hb, maskN_bit, Nat.zero_testBit]
    by_cases hj : j < n
    · cases hp : p j with
      | true => rw [h j hj hp]; simp
      | false => simp
    · simp [hj]
/-- The marks of a state. -/
def MkR (q : SQ) (s : St) (M : List (List Int)) : List (List Int) := if s.1 &&& q.du = q.du then M ++ [s.2] else M
/-- What the reference's search adds. -/
def SpR (q : SQ) (s : St) (M : List (List Int)) (w : List Int) : Prop :=
  (q.last = true ∧ ∃ A, Rch q s (A, w) ∧ A &&& q.dn = q.dn) ∨ (q.last = false ∧ ((w ∈ M ∧ Whole q s) ∨ ∃ A, Rch q s (A, w) ∧ Whole q (A, w) ∧ A &&& q.du = q.du))
def TopR (q : SQ) (s : St) (M : List (List Int)) (w : List Int) : Prop := s.1 &&& q.dn = q.dn ∧ ((q.last = true ∧ w = s.2) ∨ (q.last = false ∧ w ∈ MkR q s M))
/-- How many of the first i do not stand. -/
def cntU (A : Nat) (i : Nat) : Nat := cntB (fun j => !A.testBit j) i
/-- How many vectors the search may add. -/
def cntR (n : Nat) : Nat → Nat
  | 0 => n + 1
  | k + 1 => (n + 1) + (k + 1) * cntR n k
/-- A vector of N blocks. -/
def GV (N : Nat) (v : List Int) : Prop := v.length = 8 ∧ ∀ k, N ≤ k → v.getD k 0 = 0
/-- Vectors, as they lie. -/
def VL (K : Kn) (N : Nat) (X : List (List Int)) (W : Nat → Value) : Prop := ∀ i, i < X.length → GV N (X.getD i []) ∧ Froz K (W i) N 1 (urow (fun k => (X.getD i []).getD k 0))
theorem VL.fz {B B' : Base} {K K' : Kn} {N : Nat} {X : List (List Int)} {W : Nat → Value} (h : VL K N X W) (g : Fz B K M0 B' K') : VL K' N X W := fun i hi => ⟨(h i hi).1, (h i hi).2.fz g⟩
theorem VL.nil (K : Kn) (N : Nat) (W : Nat → Value) : VL K N [] W := fun i hi => absurd hi (Nat.not_lt_zero _)
theorem getD_app_l {α : Type} (X Y : List α) (d : α) {i : Nat} (h : i < X.length) : (X ++ Y).getD i d = X.getD i d := by
  rw [List.getD_eq_getElem?_getD, List.getElem?_append_left h, ← List.getD_eq_getElem?_getD]
theorem getD_app_r {α : Type} (X Y : List α) (d : α) {i : Nat} (h : X.length ≤ i) : (X ++ Y).getD i d = Y.getD (i - X.length) d := by
  rw [List.getD_eq_getElem?_getD, List.getElem?_append_right h, ← List.getD_eq_getElem?_getD]
def catW (n : Nat) (W W' : Nat → Value) : Nat → Value := fun i => if i < n then W i else W' (i - n)
theorem VL.one {K : Kn} {N : Nat} {v : List Int} {w : Value} (h : GV N v) (g : Froz K w N 1 (urow fun k => v.getD k 0)) : VL K N [v] (fun _ => w) := by
  intro i hi
  have : i = 0 := by simpa using hi
  subst this
  exact ⟨h, g⟩
end Sx
end
section
/- Chapter 47's reference: apply. Conditions: as each theorem says. -/
namespace Sx
open Go Go.Proofs
set_option maxRecDepth 100000
set_option pp.deepTerms true
set_option pp.maxSteps 10000000
/-- A part as the reference holds it. -/
def partL (o : HO) (V : Value) (T : PT) (C U : Value) : List SV := [i64 o.k, i64 o.f, .val V, i64 o.b, i64 o.e, .sb o.fo, .sb T.du, .val C, .val U]
def crow (T : PT) : Nat → Nat → SV := fun k _ => .sb (decide (T.f.toNat ≤ k ∧ k < T.f.toNat + T.n))
def wrow (T : PT) : Nat → Int := fun k => if T.f.toNat ≤ k ∧ k < T.f.toNat + T.n then T.v (k - T.f.toNat) else 0
def apG (T : PT) (l : List Int) (i : Nat) : Nat → Int := fun k => if k < i ∧ T.f.toNat ≤ k ∧ k < T.f.toNat + T.n then T.v (k - T.f.toNat) else l.getD k 0
end Sx
end
