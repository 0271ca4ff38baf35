/- A slice of calls, each with its own loads; a call, told without choice. Conditions: as each theorem says. -/
import Derived.Test.YtkoeikjcnancdaaAu
import Derived.Test.YtkoeikjcnancdaaEngX4
set_option linter.unusedSimpArgs false
set_option linter.unusedVariables false
namespace Sx
open Go Go.Proofs
def ak (a : AC) (r off : Nat) : Nat → SV := fun j => match j with
  | 0 => i64 a.k
  | 1 => i64 a.q
  | 2 => i64 a.c
  | 3 => .sb a.w
  | 4 => i64 a.b
  | 5 => i64 a.hi
  | 6 => i64 a.me
  | 7 => i64 a.lo
  | 8 => .sq r off 0 2 a.ld.length .no
  | _ => .und
/-- The calls lie in the block of the pinned name k. -/
structure ActsAt (B : Base) (k off n : Nat) (L : Nat → AC) (O : Nat → Nat) : Prop where
  row : ∀ i, i < n → ∃ b c tt fz, B.pin k = some b ∧ B.D b = some (.cells c tt fz) ∧ (∀ j, j < 8 → ∃ u, c[off + i * 9 + j]? = some u ∧ ∀ β, Rel β (ak (L i) 0 0 j) u) ∧
    ∃ v βi, c[off + i * 9 + 8]? = some v ∧ Rel βi (.sq 0 (O i) 0 2 (L i).ld.length .no) v ∧
      (0 < (L i).ld.length → ∃ bi o, βi 0 = some bi ∧ B.D bi = some o ∧ ∀ β, ORel β (.row (O i) (L i).ld.length (L i).ld.length 2 (ldr (L i).ld) anyTy) o)
abbrev actRo (k off i : Nat) (a : AC) (o nx : Nat) : Hp := [(k, .prow off (fun e => e = i) 9 (fun _ j => ak a nx o j) anyTy), (nx, .row o a.ld.length a.ld.length 2 (ldr a.ld) anyTy)]
theorem ldr_closed (l : Ld) (i k : Nat) : (ldr l i k).closed = true := by
  unfold ldr; split <;> rfl
theorem ActsAt.open {B : Base} {k off n : Nat} {L : Nat → AC} {O : Nat → Nat} (h : ActsAt B k off n L O) {i : Nat} (hi : i < n) {hp : Hp} {nx : Nat} (hk : k < nx) (β : Env) (w : World) (hs : Sat β hp [] B nx w) :
    ∃ β' : Env, β.le β' ∧ Sat β' hp (actRo k off i (L i) (O i) nx) B (nx + 1) w := by
  obtain ⟨b, c, tt, fz, h1, h2, h3, v, βi, h4, h5, h6⟩ := h.row i hi
  have hf : β nx = none := hs.fresh nx (Nat.le_refl _)
  obtain ⟨bi, hbi⟩ : ∃ bi, ∀ x, βi 0 = some x → x = bi := by
    cases hb : βi 0 with
    | none => exact ⟨0, fun x hx => by cases hx⟩
    | some y => exact ⟨y, fun x hx => by injection hx with hx; exact hx.symm⟩
  have hle : β.le (β.add nx bi 0) := Env.le_add hf
  have hne : nx ≠ k := by omega
  refine ⟨β.add nx bi 0, hle, ⟨⟨fun i s hi hl => ?_, fun i j s t hi hj hl ht hij => ?_, fun j s hj hl => ?_, hs.old, hs.os, hs.tape, hs.output, hs.size, Env.le_trans hs.pin hle⟩, fun j hj => ?_⟩⟩
  · obtain ⟨b, o, g1, g2, g3, g4, g5⟩ := hs.own i s hi hl
    have hn : i ≠ nx := fun e => by subst e; rw [hf] at g1; cases g1
    exact ⟨b, o, (Env.add_other _ _ _ hn).trans g1, g2, g3, ORel.mono hle _ _ g4, by rw [Env.add_room_other _ _ _ hn]; exact g5⟩
  · obtain ⟨b, o, g1, _⟩ := hs.own i s hi hl
    obtain ⟨b', o', g1', _⟩ := hs.own j t hj ht
    have hn : i ≠ nx := fun e => by subst e; rw [hf] at g1; cases g1
    have hn' : j ≠ nx := fun e => by subst e; rw [hf] at g1'; cases g1'
    rw [Env.add_other _ _ _ hn, Env.add_other _ _ _ hn']
    exact hs.apart i j s t hi hj hl ht hij
  · unfold actRo at hj
    simp only [hget] at hj
    cases hb : Nat.beq j k with
    | true =>
      rw [hb] at hj
      have hjk := Nat.eq_of_beq_eq_true hb
      subst hjk
      injection hj with hj
      subst hj
      refine ⟨b, _, (Env.add_other _ _ _ (by omega)).trans (hs.pin _ _ h1), h2, c, fz, tt, .inl rfl, rfl, fun e m he hm => ?_⟩
      have he : e = i := he
      subst he
      rcases Nat.lt_or_ge m 8 with h8 | h8
      · obtain ⟨u, hu, hr⟩ := h3 m h8
        refine ⟨u, hu, ?_⟩
        have := hr (β.add nx bi 0)
        match m, h8, this with
        | 0, _, t => exact t
        | 1, _, t => exact t
        | 2, _, t => exact t
        | 3, _, t => exact t
        | 4, _, t => exact t
        | 5, _, t => exact t
        | 6, _, t => exact t
        | 7, _, t => exact t
      · have : m = 8 := by omega
        subst this
        refine ⟨v, h4, sq_move h5 fun _ x hx => ?_⟩
        rw [Env.add_same, hbi x hx]
    | false =>
      rw [hb] at hj
      simp only [cond_false] at hj
      cases hb2 : Nat.beq j nx with
      | true =>
        rw [hb2] at hj
        have hjk := Nat.eq_of_beq_eq_true hb2
        subst hjk
        injection hj with hj
        subst hj
        obtain ⟨x, o, g1, g2, g3⟩ := h6 hl
        exact ⟨x, o, by rw [Env.add_same, hbi x g1], g2, g3 _⟩
      | false => rw [hb2] at hj; cases hj
  · rw [Env.add_other _ _ _ (by omega)]; exact hs.fresh j (by omega)
/-- Any call, told without choice. -/
theorem do_det (s : ASt) (hs : CredOk s) (Q : Ld) (hQ : QOk s Q) (cap off capL : Nat) (hlq : Q.length < 100000) (a : AC) (hla : a.ld.length < 100000) :
    ∃ z : ASt × Ld × Nat, (QOk z.1 z.2.1 ∧ CredOk z.1 ∧ z.2.1.length ≤ Q.length + 1) ∧
      HC Try.prog 18 [.ptr 0 0, refV s 2 Q.length, actV a 3 off] (doH s Q cap) (lrow a off capL) 4 (fun _ : Unit => True) (doO z.1 z.2.1 z.2.2) := by
  by_cases h0 : a.k = 0
  · by_cases he : addE s a.q a.c = 0
    · exact ⟨(_, _, _), ⟨hQ.add he, hs.add _ _, by show (insQ _ _ _).length ≤ _; rw [insQ_length]; omega⟩, do_add_ok s Q cap off capL hlq a h0 hQ.h he (hQ.add he)⟩
    · exact ⟨(_, _, _), ⟨hQ, hs, Nat.le_succ _⟩, do_add_bad s Q cap off capL hlq a h0 he hQ⟩
  by_cases h1 : a.k = 1
  · by_cases he : remE s a.q = 0
    · obtain ⟨k, hk, e, hQ'⟩ := hQ.rem he
      exact ⟨(_, _, _), ⟨hQ', hs.rem _, by show (Q.eraseIdx k).length ≤ _; rw [List.length_eraseIdx, if_pos hk]; omega⟩, do_rem_ok s Q cap off capL hlq a h1 he k hk e hQ'⟩
    · exact ⟨(_, _, _), ⟨hQ, hs, Nat.le_succ _⟩, do_rem_bad s Q cap off capL hlq a h1 he hQ⟩
  by_cases h2 : a.k = 2
  · exact ⟨(_, _, _), ⟨hQ.conf _ _ _ _ _, hs.conf _ _ _ _ _, Nat.le_succ _⟩, do_conf s Q cap off capL a h2⟩
  · have hex : ∃ z, PkP s Q a.ld z := by
      by_cases hk : LdOk s a.ld
      · exact ⟨_, .inr ⟨hk, rfl⟩⟩
      · exact ⟨_, .inl ⟨hk, rfl⟩⟩
    obtain ⟨z, hz⟩ := hex
    refine ⟨(z.s, Q, cap), ⟨hz.q hQ, hz.cred hs, Nat.le_succ _⟩, (do_pick s hs Q cap off capL hlq a hla h0 h1 h2 hQ).to fun y hy => ⟨(), trivial, ?_⟩⟩
    rw [PkP.eq hz hy]
def rcDo (s : ASt) (Q : Ld) (cap off : Nat) (a : AC) (z : ASt × Ld × Nat) (sg : List Nat) : RC :=
  ⟨18, [.ptr 0 0, refV s 2 Q.length, actV a 3 off], doH s Q cap, lrow a off a.ld.length, 4, .tup [refV z.1 4 z.2.1.length, .tt], objH z.1 ++ [(4, .row 0 z.2.1.length z.2.2 2 (ldr z.2.1) 63)], 5, sg⟩
end Sx
