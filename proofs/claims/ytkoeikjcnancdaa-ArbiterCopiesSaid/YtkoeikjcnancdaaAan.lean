/- A slice of calls that came in, opened. Conditions: as the theorem says. -/
import Derived.Test.YtkoeikjcnancdaaAaj
import Derived.Test.YtkoeikjcnancdaaAal
set_option linter.unusedSimpArgs false
set_option linter.unusedVariables false
namespace Go.Proofs.Ytkoeikjcnancdaa
open Go.ChangeShapes Go.WideShapes Go.ChangeAt Go.RowKit Go.Joins
theorem acts_arg {H : Type} {enc : TypeId × Value → H} {w : World} {v : Value} {x : DataW H × List MemPlace} {fuel : Nat} (h : DataW.trod enc Try.prog w 0 (fun _ => true) true fuel 43 [v] = some x) :
    ∃ (off n : Nat) (L : Nat → Sx.AC) (O : Nat → Nat) (β : Sx.Env), Sx.Rel β (.sq 0 off 0 9 n .no) v ∧ Sx.Sat β [] [] (Sx.Base.all w) 1 w ∧
      ∀ (B : Sx.Base) (k : Nat), B.D = (Sx.Base.all w).D → B.pin k = β 0 → Sx.ActsAt B k off n L O := by
  obtain ⟨off, n, C, β, hC, hr, hs, hcell⟩ := Sx.slice_argC (sz := 9) Try.underlying43 cells54' (by decide) h
  have one : ∀ i, i < n → ∃ p : Sx.AC × Nat, ∃ v βi, C i = [.int .i64 p.1.k, .int .i64 p.1.q, .int .i64 p.1.c, .bool p.1.w, .int .i64 p.1.b, .int .i64 p.1.hi, .int .i64 p.1.me, .int .i64 p.1.lo, v] ∧
      Sx.Rel βi (.sq 0 p.2 0 2 p.1.ld.length .no) v ∧ (0 < p.1.ld.length → ∃ bi o, βi 0 = some bi ∧ (Sx.Base.all w).D bi = some o ∧ ∀ β, Sx.ORel β (.row p.2 p.1.ld.length p.1.ld.length 2 (Sx.ldr p.1.ld) Sx.anyTy) o) := by
    intro i hi
    obtain ⟨m, y, hy⟩ := hC i hi
    obtain ⟨k, q, c, w0, b, hi, me, lo, v, fu, x, e, hv⟩ := act_cells hy
    obtain ⟨o, l, βi, g1, g2⟩ := loads_arg hv
    refine ⟨(⟨k, q, c, w0, b, hi, me, lo, l⟩, o), v, βi, e, g1, fun h0 => ?_⟩
    obtain ⟨bi, ob, h1, h2, c', fz, tt, ht, e1, e2, e3, e4⟩ := g2.read 0 (.row o l.length l.length 2 (Sx.ldr l) Sx.anyTy) rfl h0
    exact ⟨bi, ob, h1, h2, fun β => ⟨c', fz, tt, ht, e1, e2, e3, fun i k hi hk => let ⟨u, hu, hr⟩ := e4 i k hi hk; ⟨u, hu, Sx.Rel.closed _ _ (Sx.ldr_closed l i k) hr⟩⟩⟩
  have : Inhabited (Sx.AC × Nat) := ⟨(⟨0, 0, 0, false, 0, 0, 0, 0, []⟩, 0)⟩
  obtain ⟨p, hp⟩ := Deep.choose_lt one
  refine ⟨off, n, fun i => (p i).1, fun i => (p i).2, β, hr, hs, fun B k hD hk => ⟨fun i hi => ?_⟩⟩
  obtain ⟨b, c, tt, fz, h1, h2, h3⟩ := hcell i hi
  obtain ⟨v, βi, e, g1, g2⟩ := hp i hi
  refine ⟨b, c, tt, fz, hk.trans h1, (congrFun hD b).trans h2, fun j hj => ?_, v, βi, ?_, g1, ?_⟩
  · have := h3 j (by omega)
    rw [e] at this
    match j, hj with
    | 0, _ => exact ⟨_, this, fun _ => rfl⟩
    | 1, _ => exact ⟨_, this, fun _ => rfl⟩
    | 2, _ => exact ⟨_, this, fun _ => rfl⟩
    | 3, _ => exact ⟨_, this, fun _ => rfl⟩
    | 4, _ => exact ⟨_, this, fun _ => rfl⟩
    | 5, _ => exact ⟨_, this, fun _ => rfl⟩
    | 6, _ => exact ⟨_, this, fun _ => rfl⟩
    | 7, _ => exact ⟨_, this, fun _ => rfl⟩
  · have := h3 8 (by omega)
    rw [e] at this
    exact this
  · intro h0
    obtain ⟨bi, o, q1, q2, q3⟩ := g2 h0
    exact ⟨bi, o, q1, (congrFun hD bi).trans q2, q3⟩
end Go.Proofs.Ytkoeikjcnancdaa
