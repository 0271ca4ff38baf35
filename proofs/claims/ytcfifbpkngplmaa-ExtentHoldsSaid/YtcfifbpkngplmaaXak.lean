/- The law's act: the arms where a row changes. Conditions: as each theorem says. -/
import Derived.Test.YtcfifbpkngplmaaXaj
set_option linter.unusedSimpArgs false
set_option linter.unusedVariables false
namespace Sx
open Go Go.Proofs
set_option maxRecDepth 100000
set_option pp.deepTerms true
set_option pp.maxSteps 10000000
/-- What is given of the extents whose namespace's row is open. -/
structure BIn (J : Kn) (s : XSt) (z : XZ) (l : List Int) (v : Value) (W : Nat → Value) (id : Int) (b : Nat) : Prop where
  p : PInv s l
  vF : Froz J z.vF s.F.length 1 (nrow s.F)
  r : ROKx J s l v W
  len : l.length ≤ 40
  hh : s.h id = true
  form : ∃ room, z.V id = .slice (some ⟨b, 0, none⟩) (s.n id) room ∧ s.n id ≤ room
/-- What is left. -/
structure ActB (J : Kn) (s : XSt) (z : XZ) (l : List Int) (id : Int) (y : St) (J' : Kn) : Prop where
  le : Kle J J'
  p : PInv y.s y.l
  vF : Froz J' y.z.vF y.s.F.length 1 (nrow y.s.F)
  r : ROKx J' y.s y.l y.v y.W
  V : y.z.V = z.V
  blk : y.z.blk = z.blk
  n : y.s.n = s.n
  u : ∀ a, a ≠ id → y.s.u a = s.u a
  h : ∀ a, y.s.h a = true → s.h a = true
  un : y.s.un = s.un
  tot : y.s.tot = s.tot
  len : y.l.length ≤ l.length
abbrev actOutB (id : Int) (y : St) : Out := ⟨.tup [.ptr 0 0, rG y.s.un y.s.tot y.v, .tt], [(0, xC y.z.vF y.s.nx y.s.tot y.s.un 1), (1, amap y.s.h y.s.sz y.z.V), (2, uRow (y.s.n id) (y.s.u id))], 3⟩
/-- The next free unit. -/
theorem plOut {s : XSt} {id q x : Int} (hm : PlM s id q x) : ∃ nx' F', PlOut s id q x nx' F' := by
  rcases hm.x0 with ⟨h1, h2, h3⟩ | ⟨F', h1⟩
  · exact ⟨s.nx + 1, [], .inl ⟨h1, h2, h3, rfl, rfl⟩⟩
  · exact ⟨s.nx, F', .inr ⟨h1, rfl⟩⟩
theorem pl_inv {s : XSt} {l : List Int} (h : PInv s l) {id q x nx' : Int} {F' : List Int} (hm : PlM s id q x) (ho : PlOut s id q x nx' F') : (0 ≤ x ∧ x < s.tot) ∧ ¬ owned s x ∧ LowS (rsOf s l) s.tot x ∧ PInv (putS s id (upU (s.u id) (q / s.un).toNat (x + 1)) nx' F') l := by
  have hq := h.qn hm.hh hm.g0 hm.g1
  rcases ho with ⟨h1, h2, rfl, rfl, rfl⟩ | ⟨h1, rfl⟩
  · obtain ⟨g1, g2⟩ := place_new_inv h hm.hh hq hm.z0 h1 h2
    exact ⟨⟨h.n0, h2⟩, g1, h.low _ (.inr (.inl ⟨h1, h2, rfl⟩)), g2⟩
  · obtain ⟨g0, g1, g2⟩ := place_old_inv h hm.hh hq hm.z0 h1
    exact ⟨g0, g1, h.low _ (.inr (.inr ⟨F', h1⟩)), g2⟩
end Sx
