/- Program and reference, call by call. Conditions: as each theorem says. -/
import Derived.Test.YtcfifbpkngplmaaXae
set_option linter.unusedSimpArgs false
set_option linter.unusedVariables false
namespace Sx
open Go Go.Proofs
set_option maxRecDepth 100000
set_option pp.deepTerms true
set_option pp.maxSteps 10000000
structure XOK (J K : Kn) (s : XSt) (z : XZ) (ex : Int → Prop) : Prop where
  vF : Froz J z.vF s.F.length 1 (nrow s.F)
  rows : ∀ a, s.h a = true → ¬ ex a → URow K (z.V a) (z.blk a) (s.n a) (s.u a)
  form : ∀ a, s.h a = true → ∃ room, z.V a = .slice (some ⟨z.blk a, 0, none⟩) (s.n a) room ∧ s.n a ≤ room
  mt : ∀ a, s.h a = true → J (z.blk a) = none
  inj : ∀ a c, s.h a = true → s.h c = true → z.blk a = z.blk c → a = c
structure ROKx (J : Kn) (s : XSt) (l : List Int) (v : Value) (W : Nat → Value) : Prop where
  g : Froz J v l.length 3 (rrow (rsOf s l) W)
  w : RUnits J (rsOf s l) W
abbrev nobody : Int → Prop := fun _ => False
structure AInv (J K : Kn) (s : XSt) (z : XZ) (l : List Int) (v : Value) (W : Nat → Value) : Prop where
  jk : Kle J K
  p : PInv s l
  x : XOK J K s z nobody
  r : ROKx J s l v W
theorem kn_bad {s : XSt} {l : List Int} {id : Int} (h : id < 1 ∨ 1024 < id) : KnS (rsOf s l) id 0 2 := .inl ⟨h, rfl, rfl⟩
theorem kn_no {s : XSt} {l : List Int} (h : PInv s l) {id : Int} (h1 : 1 ≤ id) (h2 : id ≤ 1024) (hh : s.h id = false) : KnS (rsOf s l) id 0 9 :=
  .inr (.inl ⟨h1, h2, rfl, rfl, fun j hj e => by have := h.hk hj; have e : kF l j = id := e; rw [e, hh] at this; cases this⟩)
theorem kn_at {s : XSt} {l : List Int} {id : Int} (h1 : 1 ≤ id) (h2 : id ≤ 1024) {k : Nat} (hk : k < l.length) (hkI : kF l k = id) (hkm : ∀ j, j < k → kF l j ≠ id) : KnS (rsOf s l) id k 0 :=
  .inr (.inr ⟨h1, h2, rfl, k, rfl, hk, hkI, hkm⟩)
theorem look_both {K : Kn} {s : XSt} {l : List Int} (h : PInv s l) (z : XZ) (hV : ∀ a, s.h a = true → Froz K (z.V a) (s.n a) 1 (urow (s.u a))) (id q : Int) :
    ∃ at' is' no, LoS (rsOf s l) s.un id q at' is' no ∧ HCK Try.prog K 15 [.ptr 0 0, i64 id, i64 q] (hpX s z) [] 2 (fun _ : Unit => True) (fun _ => ⟨.tup [i64 at', .sb is', i64 no], hpX s z, 2⟩) := by
  have hu := h.u0
  by_cases g0 : q < 0
  · exact ⟨0, false, 2, .inl ⟨by decide, rfl, rfl, 0, .inl ⟨g0, rfl, rfl⟩⟩, hck_of_hc (look_neg s z hu id q g0)⟩
  by_cases h1 : id < 1
  · exact ⟨0, false, 2, .inl ⟨by decide, rfl, rfl, 0, .inr (.inl ⟨by omega, kn_bad (.inl h1), by decide⟩)⟩, hck_of_hc (look_lo s z hu id q (by omega) h1)⟩
  by_cases h2 : 1024 < id
  · exact ⟨0, false, 2, .inl ⟨by decide, rfl, rfl, 0, .inr (.inl ⟨by omega, kn_bad (.inr h2), by decide⟩)⟩, hck_of_hc (look_hi s z hu id q (by omega) (by omega) h2)⟩
  cases hh : s.h id with
  | false => exact ⟨0, false, 9, .inl ⟨by decide, rfl, rfl, 0, .inr (.inl ⟨by omega, kn_no h (by omega) (by omega) hh, by decide⟩)⟩, hck_of_hc (look_none s z hu id q (by omega) (by omega) (by omega) hh)⟩
  | true =>
    obtain ⟨k, hk, hkI, hkm⟩ := h.at hh
    have hkn : KnS (rsOf s l) id k 0 := kn_at (by omega) (by omega) hk hkI hkm
    obtain ⟨z1, z2, z3⟩ := h.sz id hh
    have hut := h.ut
    by_cases g1 : s.sz id ≤ q
    · exact ⟨0, false, 3, .inl ⟨by decide, rfl, rfl, 0, .inr (.inr (.inl ⟨by omega, rfl, rfl, k, hk, hkn, by show s.sz (kF l k) ≤ q; rw [hkI]; exact g1⟩))⟩, hck_of_hc (look_range s z hu id q (by omega) (by omega) (by omega) hh g1)⟩
    have hqn := h.qn hh (q := q) (by omega) (by omega)
    have hse : SeS (rsOf s l) id q k 0 := .inr (.inr (.inr ⟨by omega, rfl, k, rfl, hk, hkn, by show q < s.sz (kF l k); rw [hkI]; omega⟩))
    obtain ⟨b1, b2, b3⟩ := h.hf hh (q / s.un).toNat
    have eU : (rsOf s l).U k (q / s.un).toNat = s.u id (q / s.un).toNat - 1 := by show s.u (kF l k) _ - 1 = _; rw [hkI]
    have eN : (rsOf s l).N k = s.n id := by show s.n (kF l k) = _; rw [hkI]
    have hnb := h.nb hh
    by_cases g2 : s.u id (q / s.un).toNat = 0
    · exact ⟨0, false, 0, .inr ⟨rfl, k, hk, hse, by omega, by omega, by rw [eN]; exact hqn, .inl ⟨by rw [eU]; omega, rfl, rfl⟩⟩, look_zero K s z hu id q (by omega) (by omega) hh (by omega) (by omega) (by omega) hqn (hV id hh) g2⟩
    · refine ⟨_, true, 0, .inr ⟨rfl, k, hk, hse, by omega, by omega, by rw [eN]; exact hqn, .inr ⟨by rw [eU]; omega, by rw [eU]; omega, by rw [eU]; exact b3, rfl, rfl⟩⟩, ?_⟩
      rw [eU]
      exact look_at K s z hu id q (by omega) (by omega) hh (by omega) (by omega) (by omega) hqn (hV id hh) (by omega) b3 b2
theorem size_both {K : Kn} {s : XSt} {l : List Int} (h : PInv s l) (z : XZ) (hV : ∀ a, s.h a = true → Froz K (z.V a) (s.n a) 1 (urow (s.u a))) (id : Int) :
    ∃ zz uu no, SizeS (rsOf s l) id zz uu no ∧ HC Try.prog 27 [.ptr 0 0, i64 id] (hpX s z) [] 2 (fun _ : Unit => True) (fun _ => ⟨.tup [i64 zz, i64 no], hpX s z, 2⟩) ∧ HCK Try.prog K 20 [.ptr 0 0, i64 id] (hpX s z) [] 2 (fun _ : Unit => True) (fun _ => ⟨.tup [i64 uu, i64 no], hpX s z, 2⟩) := by
  have hu := h.u0
  by_cases h1 : id < 1
  · exact ⟨0, 0, 2, .inl ⟨by decide, rfl, rfl, 0, kn_bad (.inl h1)⟩, size_lo s z hu id h1, hck_of_hc (used_lo s z hu id h1)⟩
  by_cases h2 : 1024 < id
  · exact ⟨0, 0, 2, .inl ⟨by decide, rfl, rfl, 0, kn_bad (.inr h2)⟩, size_hi s z hu id (by omega) h2, hck_of_hc (used_hi s z hu id (by omega) h2)⟩
  cases hh : s.h id with
  | false => exact ⟨0, 0, 9, .inl ⟨by decide, rfl, rfl, 0, kn_no h (by omega) (by omega) hh⟩, size_none s z hu id (by omega) (by omega) hh, hck_of_hc (used_none s z hu id (by omega) (by omega) hh)⟩
  | true =>
    obtain ⟨k, hk, hkI, hkm⟩ := h.at hh
    have hkn : KnS (rsOf s l) id k 0 := kn_at (by omega) (by omega) hk hkI hkm
    have hnb := h.nb hh
    have e : cntR ((rsOf s l).U k) ((rsOf s l).N k) = cntU (s.u id) (s.n id) := by
      rw [← hkI]; exact cntU_congr fun q _ => by show s.u (kF l k) q - 1 + 1 = _; omega
    refine ⟨s.sz id, _, 0, .inr ⟨rfl, k, hk, hkn, by show _ = s.sz (kF l k); rw [hkI], rfl⟩, size_ok s z hu id (by omega) (by omega) hh, ?_⟩
    rw [e]
    exact used_ok K s z hu id (by omega) (by omega) hh (by omega) (hV id hh)
structure PlM (s : XSt) (id q x : Int) : Prop where
  h1 : 1 ≤ id
  h2 : id ≤ 1024
  hh : s.h id = true
  g0 : 0 ≤ q
  g1 : q < s.sz id
  z0 : s.u id (q / s.un).toNat = 0
  x0 : (s.F = [] ∧ s.nx < s.tot ∧ x = s.nx) ∨ ∃ F', s.F = x :: F'
theorem place_both {J K : Kn} {s : XSt} {l : List Int} (h : PInv s l) (z : XZ) (hJK : Kle J K) (hF : Froz J z.vF s.F.length 1 (nrow s.F)) (hV : ∀ a, s.h a = true → Froz K (z.V a) (s.n a) 1 (urow (s.u a))) (id q : Int) :
    (∃ at' is' no, LoS (rsOf s l) s.un id q at' is' no ∧ (no ≠ 0 ∨ is' = true) ∧ HCK Try.prog K 18 [.ptr 0 0, i64 id, i64 q] (hpX s z) [] 2 (fun _ : Unit => True) (fun _ => ⟨.tup [i64 at', .ff, i64 no], hpX s z, 2⟩)) ∨
    (LoS (rsOf s l) s.un id q 0 false 0 ∧ LowS (rsOf s l) s.tot (-1) ∧ HCK Try.prog K 18 [.ptr 0 0, i64 id, i64 q] (hpX s z) [] 2 (fun _ : Unit => True) (fun _ => ⟨.tup [i64 0, .ff, i64 7], hpX s z, 2⟩)) ∨
    (LoS (rsOf s l) s.un id q 0 false 0 ∧ ∃ x, PlM s id q x) := by
  have hu := h.u0
  by_cases g0 : q < 0
  · exact .inl ⟨0, false, 2, .inl ⟨by decide, rfl, rfl, 0, .inl ⟨g0, rfl, rfl⟩⟩, .inl (by decide), hck_of_hc (place_neg s z hu id q g0)⟩
  by_cases h1 : id < 1
  · exact .inl ⟨0, false, 2, .inl ⟨by decide, rfl, rfl, 0, .inr (.inl ⟨by omega, kn_bad (.inl h1), by decide⟩)⟩, .inl (by decide), hck_of_hc (place_lo s z hu id q (by omega) h1)⟩
  by_cases h2 : 1024 < id
  · exact .inl ⟨0, false, 2, .inl ⟨by decide, rfl, rfl, 0, .inr (.inl ⟨by omega, kn_bad (.inr h2), by decide⟩)⟩, .inl (by decide), hck_of_hc (place_hi s z hu id q (by omega) (by omega) h2)⟩
  cases hh : s.h id with
  | false => exact .inl ⟨0, false, 9, .inl ⟨by decide, rfl, rfl, 0, .inr (.inl ⟨by omega, kn_no h (by omega) (by omega) hh, by decide⟩)⟩, .inl (by decide), hck_of_hc (place_none s z hu id q (by omega) (by omega) (by omega) hh)⟩
  | true =>
    obtain ⟨k, hk, hkI, hkm⟩ := h.at hh
    have hkn : KnS (rsOf s l) id k 0 := kn_at (by omega) (by omega) hk hkI hkm
    obtain ⟨z1, z2, z3⟩ := h.sz id hh
    have hut := h.ut
    by_cases g1 : s.sz id ≤ q
    · exact .inl ⟨0, false, 3, .inl ⟨by decide, rfl, rfl, 0, .inr (.inr (.inl ⟨by omega, rfl, rfl, k, hk, hkn, by show s.sz (kF l k) ≤ q; rw [hkI]; exact g1⟩))⟩, .inl (by decide), hck_of_hc (place_range s z hu id q (by omega) (by omega) (by omega) hh g1)⟩
    have hqn := h.qn hh (q := q) (by omega) (by omega)
    have hse : SeS (rsOf s l) id q k 0 := .inr (.inr (.inr ⟨by omega, rfl, k, rfl, hk, hkn, by show q < s.sz (kF l k); rw [hkI]; omega⟩))
    obtain ⟨b1, b2, b3⟩ := h.hf hh (q / s.un).toNat
    have eU : (rsOf s l).U k (q / s.un).toNat = s.u id (q / s.un).toNat - 1 := by show s.u (kF l k) _ - 1 = _; rw [hkI]
    have eN : (rsOf s l).N k = s.n id := by show s.n (kF l k) = _; rw [hkI]
    by_cases g2 : s.u id (q / s.un).toNat = 0
    · have hLo : LoS (rsOf s l) s.un id q 0 false 0 := .inr ⟨rfl, k, hk, hse, by omega, by omega, by rw [eN]; exact hqn, .inl ⟨by rw [eU]; omega, rfl, rfl⟩⟩
      cases hFe : s.F with
      | nil =>
        by_cases hx : s.nx < s.tot
        · exact .inr (.inr ⟨hLo, s.nx, ⟨by omega, by omega, hh, by omega, by omega, g2, .inl ⟨hFe, hx, rfl⟩⟩⟩)
        · exact .inr (.inl ⟨hLo, h.low (-1) (.inl ⟨hFe, by omega, rfl⟩), place_full K s z hu id q (by omega) (by omega) hh (by omega) (by omega) (by omega) hqn (hV id hh) g2 (hF.mono hJK) hFe (by omega)⟩)
      | cons x F' => exact .inr (.inr ⟨hLo, x, ⟨by omega, by omega, hh, by omega, by omega, g2, .inr ⟨F', hFe⟩⟩⟩)
    · refine .inl ⟨_, true, 0, .inr ⟨rfl, k, hk, hse, by omega, by omega, by rw [eN]; exact hqn, .inr ⟨by rw [eU]; omega, by rw [eU]; omega, by rw [eU]; exact b3, rfl, rfl⟩⟩, .inr rfl, ?_⟩
      rw [eU]
      exact place_old K s z hu id q (by omega) (by omega) hh (by omega) (by omega) (by omega) hqn (hV id hh) (by omega) b3 b2
theorem delete_both {s : XSt} {l : List Int} (h : PInv s l) (z : XZ) (id : Int) :
    (∃ i no, KnS (rsOf s l) id i no ∧ no ≠ 0 ∧ HC Try.prog 16 [.ptr 0 0, i64 id] (hpX s z) [] 2 (fun _ : Unit => True) (fun _ => ⟨.tup [.nilsl, i64 no], hpX s z, 2⟩)) ∨ (1 ≤ id ∧ id ≤ 1024 ∧ s.h id = true) := by
  have hu := h.u0
  by_cases h1 : id < 1
  · exact .inl ⟨0, 2, kn_bad (.inl h1), by decide, delete_lo s z hu id h1⟩
  by_cases h2 : 1024 < id
  · exact .inl ⟨0, 2, kn_bad (.inr h2), by decide, delete_hi s z hu id (by omega) h2⟩
  cases hh : s.h id with
  | false => exact .inl ⟨0, 9, kn_no h (by omega) (by omega) hh, by decide, delete_none s z hu id (by omega) (by omega) hh⟩
  | true => exact .inr ⟨by omega, by omega, rfl⟩
theorem drop_both {s : XSt} {l : List Int} (h : PInv s l) (z : XZ) (id a c : Int) (hc : c ≤ 9223372036854775807) :
    (∃ no, DrS (rsOf s l) id a c no ∧ no ≠ 0 ∧ HC Try.prog 17 [.ptr 0 0, i64 id, i64 a, i64 c] (hpX s z) [] 2 (fun _ : Unit => True) (fun _ => ⟨.tup [.nilsl, i64 no], hpX s z, 2⟩)) ∨ (1 ≤ id ∧ id ≤ 1024 ∧ s.h id = true ∧ 0 ≤ a ∧ 0 ≤ c ∧ a ≤ s.sz id ∧ c ≤ s.sz id - a) := by
  have hu := h.u0
  by_cases ga : a < 0
  · by_cases gc : c < 0
    · exact .inl ⟨2, .inl ⟨.inl ga, rfl⟩, by decide, drop_n2 s z hu id a c ga gc⟩
    · exact .inl ⟨2, .inl ⟨.inl ga, rfl⟩, by decide, drop_n1 s z hu id a c ga (by omega)⟩
  by_cases gc : c < 0
  · exact .inl ⟨2, .inl ⟨.inr gc, rfl⟩, by decide, drop_n3 s z hu id a c (by omega) gc⟩
  by_cases h1 : id < 1
  · exact .inl ⟨2, .inr (.inl ⟨by omega, by omega, by decide, 0, kn_bad (.inl h1)⟩), by decide, drop_lo s z hu id a c (by omega) (by omega) h1⟩
  by_cases h2 : 1024 < id
  · exact .inl ⟨2, .inr (.inl ⟨by omega, by omega, by decide, 0, kn_bad (.inr h2)⟩), by decide, drop_hi s z hu id a c (by omega) (by omega) (by omega) h2⟩
  cases hh : s.h id with
  | false => exact .inl ⟨9, .inr (.inl ⟨by omega, by omega, by decide, 0, kn_no h (by omega) (by omega) hh⟩), by decide, drop_none s z hu id a c (by omega) (by omega) (by omega) (by omega) hh⟩
  | true =>
    obtain ⟨k, hk, hkI, hkm⟩ := h.at hh
    have hkn : KnS (rsOf s l) id k 0 := kn_at (by omega) (by omega) hk hkI hkm
    obtain ⟨z1, z2, z3⟩ := h.sz id hh
    have hut := h.ut
    have eZ : (rsOf s l).Z k = s.sz id := by show s.sz (kF l k) = _; rw [hkI]
    have hD : (s.sz id < a ∨ (a ≤ s.sz id ∧ s.sz id - a < c)) → DrS (rsOf s l) id a c 3 := fun q => .inr (.inr ⟨by omega, by omega, rfl, k, hk, hkn, by rw [eZ]; omega, by rw [eZ]; omega, by rw [eZ]; exact q⟩)
    by_cases g2 : s.sz id < a
    · by_cases g3 : c ≤ 0
      · exact .inl ⟨3, hD (.inl g2), by decide, drop_r1 s z hu id a c (by omega) (by omega) (by omega) (by omega) hh (by omega) (by omega) hc g2 g3⟩
      · exact .inl ⟨3, hD (.inl g2), by decide, drop_r2 s z hu id a c (by omega) (by omega) (by omega) (by omega) hh (by omega) (by omega) hc g2 (by omega)⟩
    by_cases g3 : s.sz id - a < c
    · exact .inl ⟨3, hD (.inr ⟨by omega, g3⟩), by decide, drop_r3 s z hu id a c (by omega) (by omega) (by omega) (by omega) hh (by omega) (by omega) hc (by omega) g3⟩
    · exact .inr ⟨by omega, by omega, rfl, by omega, by omega, by omega, by omega⟩
theorem create_both {s : XSt} {l : List Int} (h : PInv s l) (z : XZ) (id c : Int) :
    (∃ no, CrS (rsOf s l) s.un s.tot id c no ∧ no ≠ 0 ∧ HC Try.prog 11 [.ptr 0 0, i64 id, i64 c] (hpX s z) [] 2 (fun _ : Unit => True) (fun _ => ⟨i64 no, hpX s z, 2⟩)) ∨ (1 ≤ id ∧ id ≤ 1024 ∧ 1 ≤ c ∧ c ≤ s.un * s.tot ∧ s.h id = false) := by
  have hu := h.u0
  have hp := h.ut0
  have hp2 : s.un * s.tot ≤ 16777216 := by have := h.ut; omega
  by_cases h1 : id < 1
  · exact .inl ⟨2, .inl ⟨.inl h1, rfl⟩, by decide, create_lo s z hu hp hp2 id c h1⟩
  by_cases h2 : 1024 < id
  · exact .inl ⟨2, .inl ⟨.inr (.inl h2), rfl⟩, by decide, create_hi s z hu hp hp2 id c (by omega) h2⟩
  by_cases h3 : c < 1
  · exact .inl ⟨2, .inl ⟨.inr (.inr (.inl h3)), rfl⟩, by decide, create_small s z hu hp hp2 id c (by omega) (by omega) h3⟩
  by_cases h4 : s.un * s.tot < c
  · exact .inl ⟨2, .inl ⟨.inr (.inr (.inr h4)), rfl⟩, by decide, create_big s z hu hp hp2 id c (by omega) (by omega) (by omega) h4⟩
  cases hh : s.h id with
  | false => exact .inr ⟨by omega, by omega, by omega, by omega, rfl⟩
  | true =>
    obtain ⟨k, hk, hkI, hkm⟩ := h.at hh
    exact .inl ⟨11, .inr ⟨by omega, by omega, by omega, by omega, rfl, k, hk, hkI, hkm⟩, by decide, create_busy s z hu hp hp2 id c (by omega) (by omega) (by omega) (by omega) hh⟩
end Sx
