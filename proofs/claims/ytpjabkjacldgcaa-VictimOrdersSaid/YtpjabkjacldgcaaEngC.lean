/- A slice that came in: a row to read. Conditions: as each theorem says. -/
import Derived.Test.YtpjabkjacldgcaaEng29
import Derived.Deep.Slices
namespace Sx
open Go Go.ChangeShapes Go.WideShapes
section
variable {H : Type} {enc : TypeId × Value → H} {P : Program} {w : World}
/-- An environment of one block. -/
def Env.one (b : Nat) : Env := ⟨fun i => match i with | 0 => some b | _ => none, fun _ => 0⟩
theorem rel_nilsq {β : Env} {off sz : Nat} : Rel β (.sq 0 off 0 sz 0 .no) (.slice none 0 0) :=
  ⟨none, 0, rfl, fun _ => rfl, fun h => (by cases h), fun h => (by cases h), fun h => absurd h (Nat.lt_irrefl 0)⟩
theorem slice_arg {t e : TypeId} {sz fuel : Nat} {v : Value} {x : DataW H × List MemPlace} (ht : P.underlying t = some (.slice e)) (hsz : P.cellsOf e = sz) (hp : 0 < sz)
    (h : DataW.trod enc P w 0 (fun _ => true) true fuel t [v] = some x) :
    ∃ (off n : Nat) (C : Nat → List Value), (∀ i, i < n → ∃ m y, DataW.trod enc P w 0 (fun _ => true) true m e (C i) = some y) ∧
      ∀ f : Nat → Nat → SV, (∀ i k, i < n → k < sz → ∃ u, (C i)[k]? = some u ∧ ∀ β, Rel β (f i k) u) →
        ∃ β : Env, Rel β (.sq 0 off 0 sz n .no) v ∧ Sat β [] [(0, .row off n n sz f anyTy)] (Base.all w) 1 w := by
  rcases Deep.open_slice ht h with ⟨hv, _⟩ | ⟨a, len, cap, m, n, D, Pl, hv, _, hl, _, hm, _, hx⟩
  · obtain rfl : v = .slice none 0 0 := by simpa using hv
    refine ⟨0, 0, fun _ => [], fun i hi => absurd hi (Nat.not_lt_zero _), fun f _ => ⟨Env.nil, rel_nilsq, ⟨⟨fun _ _ h => (none_ne h).elim, fun _ _ _ _ h => (none_ne h).elim, ?_, fun _ _ h => h, rfl, rfl, rfl, Nat.le_refl _, Env.le_refl _⟩, fun _ _ => rfl⟩⟩⟩
    intro i s hi hs
    unfold hget at hi
    cases hb : Nat.beq i 0 with
    | true => rw [hb] at hi; injection hi with hi; subst hi; exact absurd hs (Nat.lt_irrefl 0)
    | false => rw [hb] at hi; exact (none_ne hi).elim
  · obtain rfl : v = .slice (some a) len cap := by simpa using hv
    have hm : m = cap := by simpa using hm
    subst hm
    rw [hsz] at hx
    obtain ⟨C, hC⟩ := Deep.choose_lt (α := List Value) (p := fun i cs' => w.cells? 0 (a.add (i * sz)) sz = some cs' ∧ DataW.trod enc P w 0 (fun _ => true) true n e cs' = some (D i, Pl i)) (n := m) hx
    refine ⟨a.off, len, C, fun i hi => ⟨n, _, (hC i (by omega)).2⟩, fun f hf => ?_⟩
    have cell : ∀ i k, i < m → k < sz → w.cell? ((a.add (i * sz)).add k) = (C i)[k]? := fun i k hi hk => (World.cells?_some (hC i hi).1).2.2 k hk
    have len' : ∀ i, i < m → (C i).length = sz := fun i hi => (World.cells?_some (hC i hi).1).2.1
    refine ⟨Env.one a.block, ?_, ⟨⟨fun _ _ h => (none_ne h).elim, fun _ _ _ _ h => (none_ne h).elim, ?_, fun _ _ h => h, rfl, rfl, rfl, Nat.le_refl _, Env.nil_le _⟩, ?_⟩⟩
    · unfold Rel
      refine ⟨some a, m, rfl, fun h => (by cases h), fun h => (by cases h), fun h => (by cases h), fun h0 => ⟨hl, a.block, rfl, ?_, fun h => (by cases h)⟩⟩
      have c0 := cell 0 0 (by omega) hp
      have l0 := len' 0 (by omega)
      rw [List.getElem?_eq_getElem (by omega)] at c0
      have : a.spot = none := by
        have := World.cell?_spot c0
        simpa [Addr.add] using this
      obtain ⟨ab, ao, asp⟩ := a
      simp only at this
      subst this
      simp
    · intro i s hi hs
      unfold hget at hi
      cases hb : Nat.beq i 0 with
      | false => rw [hb] at hi; exact (none_ne hi).elim
      | true =>
        rw [hb] at hi; injection hi with hi; subst hi
        have h0 : 0 < len := hs
        have hi0 := Nat.eq_of_beq_eq_true hb
        subst hi0
        have c0 := cell 0 0 (by omega) hp
        have l0 := len' 0 (by omega)
        rw [List.getElem?_eq_getElem (by omega)] at c0
        have sp : a.spot = none := by
          have := World.cell?_spot c0
          simpa [Addr.add] using this
        obtain ⟨ab, ao, asp⟩ := a
        simp only at sp
        subst sp
        have hcell : ∀ i k, i < m → k < sz → ∃ c tt fz, w.heap[ab]? = some (.cells c tt fz) ∧ c[ao + i * sz + k]? = (C i)[k]? := by
          intro i k hi hk
          have h1 := cell i k hi hk
          have h2 := len' i hi
          rw [List.getElem?_eq_getElem (by omega)] at h1 ⊢
          have e1 : ((Addr.mk ab ao none).add (i * sz)).add k = ⟨ab, ao + i * sz + k, none⟩ := by
            unfold Addr.add
            by_cases q : i * sz = 0 <;> by_cases r : k = 0 <;> simp [q, r, Nat.add_assoc]
          rw [e1] at h1
          unfold World.cell? at h1
          split at h1
          · rename_i c tt fz hh
            exact ⟨c, tt, fz, hh, by simpa using h1⟩
          · cases h1
        obtain ⟨c, tt, fz, hh, _⟩ := hcell 0 0 (by omega) hp
        refine ⟨ab, _, rfl, hh, c, fz, tt, .inl rfl, rfl, Nat.le_refl _, ?_, fun i k hi hk => ?_⟩
        · obtain ⟨c', tt', fz', hh', g⟩ := hcell (len - 1) (sz - 1) (by omega) (by omega)
          rw [hh] at hh'
          simp only [Option.some.injEq, Obj.cells.injEq] at hh'
          obtain ⟨rfl, _, _⟩ := hh'
          rw [List.getElem?_eq_getElem (by have := len' (len - 1) (by omega); omega)] at g
          have := (Array.getElem?_eq_some_iff.1 g).1
          have e : len * sz = (len - 1) * sz + sz := by
            rw [← Nat.succ_mul]; congr 1; omega
          show ao + len * sz ≤ c.size
          rw [e]; omega
        · obtain ⟨c', tt', fz', hh', g⟩ := hcell i k (by omega) hk
          rw [hh] at hh'
          simp only [Option.some.injEq, Obj.cells.injEq] at hh'
          obtain ⟨rfl, _, _⟩ := hh'
          obtain ⟨u, hu, hr⟩ := hf i k hi hk
          exact ⟨u, by rw [g]; exact hu, hr _⟩
    · intro i hi
      match i, hi with
      | i + 1, _ => rfl
end
end Sx
