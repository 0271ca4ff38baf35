/- Package extent: Copy. What is known for good and what may change. Conditions: as each theorem says. -/
import Derived.Test.YtcfifbpkngplmaaXp
set_option linter.unusedSimpArgs false
set_option linter.unusedVariables false
namespace Sx
open Go Go.Proofs
set_option maxRecDepth 100000
set_option pp.deepTerms true
set_option pp.maxSteps 10000000
/-- What one knows, the other knows. -/
def Kle (J K : Kn) : Prop := ∀ b o, J b = some o → K b = some o
/-- What is known for good, and all that is known, before and after. -/
structure Ev (J K J' K' : Kn) : Prop where
  le : Kle J J'
  jk : Kle J' K'
  mt : ∀ b, K b ≠ none → J b = none → J' b = none
  keep : Kle K K'
theorem Ev.refl {J K : Kn} (h : Kle J K) : Ev J K J K := ⟨fun _ _ h => h, h, fun _ _ h => h, fun _ _ h => h⟩
theorem Ev.trans {J K J1 K1 J2 K2 : Kn} (h : Ev J K J1 K1) (g : Ev J1 K1 J2 K2) : Ev J K J2 K2 :=
  ⟨fun b o e => g.le b o (h.le b o e), g.jk, fun b hk hj => g.mt b (by
    cases e : K b with
    | none => exact absurd e hk
    | some o => rw [h.keep b o e]; simp) (h.mt b hk hj), fun b o e => g.keep b o (h.keep b o e)⟩
/-- All that is known, after a call that knew only a part. -/
def joinK (K J1 : Kn) : Kn := fun b => match J1 b with | some o => some o | none => K b
theorem ev_join {B B' : Base} {J K J1 : Kn} (hJ : Kle J K) (hK : ∀ b o, K b = some o → B.D b = some o) (hF : Fz B J M0 B' J1) : Ev J K J1 (joinK K J1) ∧ Fz B K M0 B' (joinK K J1) := by
  have hmut : ∀ b, K b ≠ none → J b = none → J1 b = none := fun b hk hj => by
    cases e : J1 b with
    | none => rfl
    | some o =>
      exfalso
      rcases hF.new b o e with q | q
      · exact q hj
      · cases e2 : K b with
        | none => exact hk e2
        | some o2 => rw [hK b o2 e2] at q; cases q
  have hkeep : Kle K (joinK K J1) := fun b o e => by
    unfold joinK
    cases e1 : J1 b with
    | none => exact e
    | some o1 =>
      cases e2 : J b with
      | none => rw [hmut b (by rw [e]; simp) e2] at e1; cases e1
      | some o2 =>
        have g1 := hF.old b o2 e2 (fun h => h)
        have g2 := hJ b o2 e2
        rw [e1] at g1; rw [e] at g2
        show some o1 = some o
        rw [g1, ← g2]
  refine ⟨⟨fun b o e => hF.old b o e (fun h => h), fun b o e => by unfold joinK; rw [e], hmut, hkeep⟩, ⟨hF.ok, hF.kd, hF.pin, hF.os, hF.tape, hF.output, hF.size, hF.keep, fun b o e => ?_, fun b o e _ => hkeep b o e, fun b o e => ?_⟩⟩
  · unfold joinK at e
    cases e1 : J1 b with
    | none => rw [e1] at e; exact hF.keep b o (hK b o e) (fun h => h)
    | some o1 => rw [e1] at e; injection e with e; subst e; exact hF.le b o1 e1
  · unfold joinK at e
    cases e1 : J1 b with
    | none => rw [e1] at e; left; rw [show K b = some o from e]; simp
    | some o1 =>
      rcases hF.new b o1 e1 with q | q
      · left
        cases e2 : J b with
        | none => exact absurd e2 q
        | some o2 => rw [hJ b o2 e2]; simp
      · exact .inr q
/-- A row of units whose block is told. -/
def URow (K : Kn) (v : Value) (b n : Nat) (f : Nat → Int) : Prop := ∃ (room : Nat) (c : Array Value), v = .slice (some ⟨b, 0, none⟩) n room ∧ n ≤ room ∧ K b = some (.cells c 3 (0, 0)) ∧ n ≤ c.size ∧ ∀ i, i < n → ∃ u, c[i]? = some u ∧ Rel Env.nil (i64 (f i)) u
theorem URow.le {K K' : Kn} {v : Value} {b n : Nat} {f : Nat → Int} (h : URow K v b n f) (g : K' b = K b) : URow K' v b n f := by
  obtain ⟨room, c, h1, h2, h3, h4, h5⟩ := h
  exact ⟨room, c, h1, h2, by rw [g]; exact h3, h4, h5⟩
theorem URow.keep {K K' : Kn} {v : Value} {b n : Nat} {f : Nat → Int} (h : URow K v b n f) (g : Kle K K') : URow K' v b n f := by
  obtain ⟨room, c, h1, h2, h3, h4, h5⟩ := h
  exact ⟨room, c, h1, h2, g _ _ h3, h4, h5⟩
theorem URow.some {K : Kn} {v : Value} {b n : Nat} {f : Nat → Int} (h : URow K v b n f) : K b ≠ none := by
  obtain ⟨room, c, h1, h2, h3, h4, h5⟩ := h
  rw [h3]; simp
theorem URow.froz {K : Kn} {v : Value} {b n : Nat} {f : Nat → Int} (h : URow K v b n f) : Froz K v n 1 (urow f) := by
  obtain ⟨room, c, h1, h2, h3, h4, h5⟩ := h
  refine ⟨_, room, h1, fun h => by (cases h), fun h0 => ⟨h2, b, 0, c, 3, (0, 0), rfl, h3, fun i k hi hk => ?_⟩⟩
  obtain ⟨u, g1, g2⟩ := h5 i hi
  have hk : k = 0 := by omega
  subst hk
  exact ⟨u, by rw [show 0 + i * 1 + 0 = i by omega]; exact g1, g2⟩
end Sx
