/- The reference of chapter 27: its readers. Conditions: as each theorem says. -/
import Derived.Test.YtcfifbpkngplmaaXt
set_option linter.unusedSimpArgs false
set_option linter.unusedVariables false
namespace Sx
open Go Go.Proofs
set_option maxRecDepth 100000
set_option pp.deepTerms true
set_option pp.maxSteps 10000000
theorem hck_openA3 {P : Program} {K : Kn} {f : FuncId} {v : Value} {m sz : Nat} {g : Nat → Nat → SV} (hF : Froz K v m sz g) (hsz : 0 < sz) {x y r : SV} {xs : List SV} (hr : r.closed = true)
    (h : ∀ off, HCK P K f (.agg [x, y, .sq 0 off 0 sz m .no] :: xs) [] [(0, .row off m m sz g anyTy)] 1 (fun _ : Unit => True) (fun _ => ⟨r, [], 1⟩)) :
    HCK P K f (.agg [x, y, .val v] :: xs) [] [] 0 (fun _ : Unit => True) (fun _ => ⟨r, [], 0⟩) := by
  intro B β w vs hB hK hl hs0
  obtain ⟨off, β1, hle, hrel, hs1⟩ := sat_open hK hF hsz hs0
  have hl1 : RelL β1 (.agg [x, y, .sq 0 off 0 sz m .no] :: xs) vs := by
    obtain ⟨u, us, rfl, hu, hr⟩ := hl
    refine ⟨u, us, rfl, ?_, RelL.mono hle _ _ hr⟩
    obtain ⟨us', e, u1, us1, rfl, hu1, u2, us2, rfl, hu2, u3, us3, rfl, hu3, hx⟩ := hu
    have hu3 : u3 = v ∧ _ := hu3
    exact ⟨_, e, u1, _, rfl, Rel.mono hle _ _ hu1, u2, _, rfl, Rel.mono hle _ _ hu2, u3, us3, rfl, by rw [hu3.1]; exact hrel, RelL.mono hle _ _ hx⟩
  have hs2 : Sat β1 [] [(0, .row off m m sz g anyTy)] ⟨B.D, B.w, β1, Kind.norm⟩ 1 w := ⟨⟨hs1.own, hs1.apart, hs1.read, hs1.old, hs1.os, hs1.tape, hs1.output, hs1.size, Env.le_refl _⟩, hs1.fresh⟩
  refine (h off ⟨B.D, B.w, β1, Kind.norm⟩ β1 w vs hB hK hl1 hs2).mono ?_
  rintro e w' ⟨_, β', u, _, h2, rfl, h4, h5⟩
  exact ⟨(), β, u, trivial, Env.le_refl _, rfl, Rel.closed _ _ hr h4, ⟨⟨fun _ _ hi => (none_ne hi).elim, fun _ _ _ _ hi => (none_ne hi).elim, fun _ _ hi => (none_ne hi).elim, h5.old, h5.os, h5.tape, h5.output, h5.size, hs0.pin⟩, hs0.fresh⟩⟩
structure RS where
  m : Nat
  I : Nat → Int
  Z : Nat → Int
  N : Nat → Nat
  U : Nat → Nat → Int
def rrow (r : RS) (W : Nat → Value) : Nat → Nat → SV := fun i k => match k with
  | 0 => i64 (r.I i)
  | 1 => i64 (r.Z i)
  | _ => .val (W i)
theorem ren_rrow (nx : Nat) (sg : List Nat) (r : RS) (W : Nat → Value) (i k : Nat) : ren nx sg (rrow r W i k) = rrow r W i k := by
  unfold rrow; split <;> simp only [ren, renF, id]
theorem renR_rrow (nx : Nat) (sg : List Nat) (r : RS) (W : Nat → Value) : renR nx sg (rrow r W) = rrow r W := by funext i k; exact ren_rrow nx sg r W i k
def RUnits (K : Kn) (r : RS) (W : Nat → Value) : Prop := ∀ i, i < r.m → Froz K (W i) (r.N i) 1 (urow (r.U i))
abbrev rG (un tot : Int) (v : Value) : SV := .agg [i64 un, i64 tot, .val v]
abbrev rGo (un tot : Int) (off m : Nat) : SV := .agg [i64 un, i64 tot, .sq 0 off 0 3 m .no]
abbrev rRow (off : Nat) (r : RS) (W : Nat → Value) : SO := .row off r.m r.m 3 (rrow r W) anyTy
abbrev cfR : List Nat := [56, 67, 68, 70, 71, 72, 73, 80]
def modeR : Mode := { st := true, unr := false, inl := fun f => !hasN f cfR, sum := sumOf [], keep := fun _ => none }
theorem goR {B : Base} (hB : B.ok) {ro : Hp} {f : FuncId} {R : Ending → World → Prop} {cs0 cs : List Prop} {c c0 c' : Cfg} (h0 : stepD Try.prog modeR ro c = some (cs0, c0)) (h : execG Try.prog modeR ro 400 cs0 c0 = (cs, c')) (hc : conj cs)
    (hr : Run Try.prog ro B f R c') : Run Try.prog ro B f R c := run_go mixed named hB (sumOk_nil _) 400 h0 h hc hr
theorem goRT {B : Base} (hB : B.ok) {ro : Hp} {f : FuncId} {R : Ending → World → Prop} (S : List (Nat × Nat)) (m : Nat) {cs : List Prop} {c c' : Cfg} (h : execY Try.prog modeR ro S m [] c = (cs, c')) (hc : conj cs)
    (hr : Run Try.prog ro B f R c') : Run Try.prog ro B f R c := run_goY mixed named hB (sumOk_nil _) S m h hc hr
def FindS (r : RS) (id x : Int) : Prop := (x = -1 ∧ ∀ j, j < r.m → r.I j ≠ id) ∨ ∃ i : Nat, x = i ∧ i < r.m ∧ r.I i = id ∧ ∀ j, j < i → r.I j ≠ id
theorem find_v (r : RS) (W : Nat → Value) (un tot : Int) (id x : Int) (hx : FindS r id x) (hm : r.m < 100000) (off : Nat) :
    HC Try.prog 67 [rGo un tot off r.m, i64 id] [] [(0, rRow off r W)] 1 (fun _ : Unit => True) (fun _ => ⟨i64 x, [], 1⟩) := by
  refine hc_of_run Try.func67 rfl (fun B hB hpin => ?_)
  refine goR hB rfl rfl (by first | exact conj_nil | simp [conj]) ?_
  refine run_loop ?_
  trace_state
  refine run_inv (ι := Nat) hpin (fun i => i ≤ r.m ∧ ∀ j, j < i → r.I j ≠ id) (fun i => r.m - i) (fun i => [(5, i64 i), (2, .ptr 1 0), (1, i64 id)]) (fun _ => []) (fun _ => [(1, .cells [i64 un, i64 tot, .sq 0 off 0 3 r.m .no] 50)]) 2 0 ⟨Nat.zero_le _, fun j hj => absurd hj (Nat.not_lt_zero _)⟩ [0, 1] rfl rfl (by simp [conj, less_rfl, ren_rrow, renR_rrow]) ?_
  rintro i ⟨hi, hno⟩ ih
  refine goRT hB [(67, 10)] 400 rfl (by clear ih; first | exact conj_nil | simp [conj]) ?_
  by_cases hin : i < r.m
  · have e0 : 0 + ((i : Nat) : Int).toNat = i := by omega
    refine run_tt (by simpa using hin) ?_
    refine goRT hB [(67, 20)] 400 rfl (by clear ih; simp [conj, hin]) ?_
    rw [e0]
    by_cases hq : r.I i = id
    · clear ih
      refine run_tt (by simpa using hq) ?_
      have hxi : x = i := by
        rcases hx with ⟨_, h⟩ | ⟨i', rfl, h1, h2, h3⟩
        · exact absurd hq (h i hin)
        · have : i' = i := by
            rcases Nat.lt_trichotomy i' i with h | h | h
            · exact absurd h2 (hno i' h)
            · exact h
            · exact absurd hq (h3 i h)
          rw [this]
      rw [hxi]
      refine goR hB rfl rfl (by first | exact conj_nil | simp [conj]) ?_
      refine run_retC hpin () trivial [0] rfl rfl (by first | exact conj_nil | simp [conj]) rfl ?_
      simp [conj, less_rfl, ren_rrow, renR_rrow]
    · have ih := ih (i + 1) ⟨by omega, fun j hj => by
        rcases Nat.lt_or_ge j i with h | h
        · exact hno j h
        · have : j = i := by omega
          rw [this]; exact hq⟩ (by omega)
      refine run_ff (by simpa using hq) ?_
      refine goR hB rfl rfl (by clear ih; simp [conj, Fits_i64]; omega) ?_
      refine run_back ?_
      refine run_to hpin [0, 1] rfl rfl ?_ ih
      clear ih
      simp [conj, less_rfl, ren_rrow, renR_rrow]
  · clear ih
    have hie : i = r.m := by omega
    refine run_ff (by simpa using hin) ?_
    have hx1 : x = -1 := by
      rcases hx with ⟨h, _⟩ | ⟨i', rfl, h1, h2, h3⟩
      · exact h
      · exact absurd h2 (hno i' (by omega))
    rw [hx1]
    refine goR hB rfl rfl (by first | exact conj_nil | simp [conj]) ?_
    refine run_retC hpin () trivial [0] rfl rfl (by first | exact conj_nil | simp [conj]) rfl ?_
    simp [conj, less_rfl, ren_rrow, renR_rrow]
end Sx
