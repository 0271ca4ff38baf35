/- The reference of chapter 27: known, Size, sector, Look. Conditions: as each theorem says. -/
import Derived.Test.YtcfifbpkngplmaaXv
import Derived.Test.YtcfifbpkngplmaaEngX5
set_option linter.unusedSimpArgs false
set_option linter.unusedVariables false
namespace Sx
open Go Go.Proofs
set_option maxRecDepth 100000
set_option pp.deepTerms true
set_option pp.maxSteps 10000000
def KnS (r : RS) (id i no : Int) : Prop := ((id < 1 ∨ 1024 < id) ∧ i = 0 ∧ no = 2) ∨ (1 ≤ id ∧ id ≤ 1024 ∧ i = 0 ∧ no = 9 ∧ ∀ j, j < r.m → r.I j ≠ id) ∨ (1 ≤ id ∧ id ≤ 1024 ∧ no = 0 ∧ ∃ k : Nat, i = k ∧ k < r.m ∧ r.I k = id ∧ ∀ j, j < k → r.I j ≠ id)
theorem KnS.int {r : RS} {id i no : Int} (h : KnS r id i no) : 0 ≤ i := by
  rcases h with ⟨_, h, _⟩ | ⟨_, _, h, _⟩ | ⟨_, _, _, k, h, _⟩ <;> omega
/-- The size of a namespace, and its units. -/
def SizeS (r : RS) (id z u no : Int) : Prop := (no ≠ 0 ∧ z = 0 ∧ u = 0 ∧ ∃ i, KnS r id i no) ∨ (no = 0 ∧ ∃ k : Nat, k < r.m ∧ KnS r id k 0 ∧ z = r.Z k ∧ u = cntR (r.U k) (r.N k))
def SeS (r : RS) (id s i no : Int) : Prop := (s < 0 ∧ i = 0 ∧ no = 2) ∨ (0 ≤ s ∧ KnS r id i no ∧ no ≠ 0) ∨ (0 ≤ s ∧ i = 0 ∧ no = 3 ∧ ∃ k : Nat, k < r.m ∧ KnS r id k 0 ∧ r.Z k ≤ s) ∨ (0 ≤ s ∧ no = 0 ∧ ∃ k : Nat, i = k ∧ k < r.m ∧ KnS r id k 0 ∧ s < r.Z k)
/-- What the reference's Look says. -/
def LoS (r : RS) (un id s at' : Int) (is' : Bool) (no : Int) : Prop := (no ≠ 0 ∧ at' = 0 ∧ is' = false ∧ ∃ i, SeS r id s i no) ∨ (no = 0 ∧ ∃ k : Nat, k < r.m ∧ SeS r id s k 0 ∧ 0 ≤ s ∧ s ≤ 16777216 ∧ (s / un).toNat < r.N k ∧ ((r.U k (s / un).toNat < 0 ∧ at' = 0 ∧ is' = false) ∨ (0 ≤ r.U k (s / un).toNat ∧ r.U k (s / un).toNat ≤ 16777216 ∧ r.U k (s / un).toNat * un ≤ 16777216 ∧ at' = r.U k (s / un).toNat * un + s % un ∧ is' = true)))
end Sx
