/- The reference of chapter 27: count, owner, lowest, Free. Conditions: as each theorem says. -/
import Derived.Test.YtcfifbpkngplmaaXu
set_option linter.unusedSimpArgs false
set_option linter.unusedVariables false
namespace Sx
open Go Go.Proofs
set_option maxRecDepth 100000
set_option pp.deepTerms true
set_option pp.maxSteps 10000000
def cntR (f : Nat → Int) (n : Nat) : Nat := cntU (fun k => f k + 1) n
theorem count_hck (K : Kn) (v : Value) (a c : Int) (n : Nat) (f : Nat → Int) (hn : n < 100000000) (hV : Froz K v n 1 (urow f)) :
    HCK Try.prog K 73 [.agg [i64 a, i64 c, .val v]] [] [] 0 (fun _ : Unit => True) (fun _ => ⟨i64 (cntR f n), [], 0⟩) := by
  refine hck_of_run Try.func73 rfl (fun B hB hK hpin => ?_)
  refine goR hB rfl rfl (by first | exact conj_nil | simp [conj]) ?_
  refine run_loop ?_
  refine run_inv (ι := Nat) hpin (fun i => i ≤ n) (fun i => n - i) (fun i => [(4, i64 i), (3, i64 (cntR f i)), (1, .ptr 0 0)]) (fun _ => []) (fun _ => [(0, .cells [i64 a, i64 c, .val v] 60)]) 1 0 (Nat.zero_le _) [0] rfl rfl (by simp [conj, less_rfl, cntR, cntU]) ?_
  intro i hi ih
  have hci := cntU_le (fun k => f k + 1) i
  refine goR hB rfl rfl (by clear ih; first | exact conj_nil | simp [conj]) ?_
  refine run_open hK 7 hV (by decide) rfl (fun off => ?_)
  refine goRT hB [(73, 9)] 400 rfl (by clear ih; first | exact conj_nil | simp [conj]) ?_
  refine run_close (.inl rfl) ?_
  by_cases hi1 : i < n
  · have ih := ih (i + 1) hi1 (by omega)
    have e0 : 0 + ((i : Nat) : Int).toNat = i := by omega
    have ec : cntR f (i + 1) = cntR f i + if 0 < f i + 1 then 1 else 0 := rfl
    have ec2 : cntR f i = cntU (fun k => f k + 1) i := rfl
    refine run_tt (by simpa using hi1) ?_
    refine goR hB rfl rfl (by clear ih; first | exact conj_nil | simp [conj]) ?_
    refine run_open hK 13 hV (by decide) rfl (fun off2 => ?_)
    refine goRT hB [(73, 17)] 400 rfl (by clear ih; simp [conj, hi1]) ?_
    refine run_close (.inl rfl) ?_
    rw [e0]
    by_cases hp : 0 ≤ f i
    · rw [if_pos (by omega)] at ec
      refine run_tt (by simpa using hp) ?_
      refine goR hB rfl rfl (by clear ih; simp [conj, Fits_i64]; omega) ?_
      refine run_back ?_
      refine run_to hpin [0] rfl rfl ?_ ih
      clear ih
      simp [conj, less_rfl, ec]
    · rw [if_neg (by omega)] at ec
      refine run_ff (by simpa using hp) ?_
      refine goR hB rfl rfl (by clear ih; simp [conj, Fits_i64]; omega) ?_
      refine run_back ?_
      refine run_to hpin [0] rfl rfl ?_ ih
      clear ih
      simp [conj, less_rfl, ec]
  · clear ih
    have hin : i = n := by omega
    subst hin
    refine run_ff (by simp) ?_
    refine goR hB rfl rfl (by first | exact conj_nil | simp [conj]) ?_
    refine run_retC hpin () trivial [] rfl rfl (by first | exact conj_nil | simp [conj]) rfl ?_
    simp [conj, less_rfl]
def OwnS (r : RS) (u : Int) : Prop := ∃ i, i < r.m ∧ ∃ k, k < r.N i ∧ r.U i k = u
theorem owner_v (K : Kn) (r : RS) (W : Nat → Value) (hW : RUnits K r W) (hm : r.m < 100000) (hN : ∀ i, r.N i < 100000000) (un tot : Int) (u : Int) (b : Bool) (hb : b = true ↔ OwnS r u) (off : Nat) :
    HCK Try.prog K 80 [rGo un tot off r.m, i64 u] [] [(0, rRow off r W)] 1 (fun _ : Unit => True) (fun _ => ⟨.sb b, [], 1⟩) := by
  refine hck_of_run Try.func80 rfl (fun B hB hK hpin => ?_)
  refine goR hB rfl rfl (by first | exact conj_nil | simp [conj]) ?_
  refine run_loop ?_
  refine run_inv (ι := Nat) hpin (fun i => i ≤ r.m ∧ ∀ j, j < i → ∀ k, k < r.N j → r.U j k ≠ u) (fun i => r.m - i) (fun i => [(5, i64 i), (2, .ptr 1 0), (1, i64 u)]) (fun _ => []) (fun _ => [(1, .cells [i64 un, i64 tot, .sq 0 off 0 3 r.m .no] 50)]) 2 0 ⟨Nat.zero_le _, fun j hj => absurd hj (Nat.not_lt_zero _)⟩ [0, 1] rfl rfl (by simp [conj, less_rfl, ren_rrow, renR_rrow]) ?_
  rintro i ⟨hi, hno⟩ ih
  refine goRT hB [(80, 11)] 400 rfl (by clear ih; first | exact conj_nil | simp [conj]) ?_
  by_cases hin : i < r.m
  · have e0 : 0 + ((i : Nat) : Int).toNat = i := by omega
    have hNi := hN i
    refine run_tt (by simpa using hin) ?_
    refine goR hB rfl rfl (by clear ih; first | exact conj_nil | simp [conj]) ?_
    refine run_loop ?_
    refine run_inv (ι := Nat) hpin (fun k => k ≤ r.N i ∧ ∀ j, j < k → r.U i j ≠ u) (fun k => r.N i - k) (fun k => [(6, i64 k), (5, i64 i), (2, .ptr 1 0), (1, i64 u)]) (fun _ => []) (fun _ => [(1, .cells [i64 un, i64 tot, .sq 0 off 0 3 r.m .no] 50)]) 2 0 ⟨Nat.zero_le _, fun j hj => absurd hj (Nat.not_lt_zero _)⟩ [0, 1] rfl rfl (by clear ih; simp [conj, less_rfl, ren_rrow, renR_rrow]) ?_
    rintro k ⟨hk, hkn⟩ ihk
    refine goR hB rfl rfl (by clear ih ihk; simp [conj, hin]) ?_
    rw [e0]
    refine run_open hK 20 (hW i hin) (by decide) rfl (fun off2 => ?_)
    refine goRT hB [(80, 22)] 400 rfl (by clear ih ihk; first | exact conj_nil | simp [conj]) ?_
    refine run_close (.inl rfl) ?_
    by_cases hk2 : k < r.N i
    · have e1 : 0 + ((k : Nat) : Int).toNat = k := by omega
      refine run_tt (by simpa using hk2) ?_
      refine goR hB rfl rfl (by clear ih ihk; simp [conj, hin]) ?_
      rw [e0]
      refine run_open hK 30 (hW i hin) (by decide) rfl (fun off3 => ?_)
      refine goRT hB [(80, 35)] 400 rfl (by clear ih ihk; simp [conj, hk2]) ?_
      refine run_close (.inl rfl) ?_
      rw [e1]
      by_cases hq : r.U i k = u
      · clear ih ihk
        have hbt : b = true := hb.2 ⟨i, hin, k, hk2, hq⟩
        subst hbt
        refine run_tt (by simpa using hq) ?_
        refine goR hB rfl rfl (by first | exact conj_nil | simp [conj]) ?_
        refine run_retC hpin () trivial [0] rfl rfl (by first | exact conj_nil | simp [conj]) rfl ?_
        simp [conj, less_rfl, ren_rrow, renR_rrow]
      · have ihk := ihk (k + 1) ⟨by omega, fun j hj => by
          rcases Nat.lt_or_ge j k with h | h
          · exact hkn j h
          · have : j = k := by omega
            rw [this]; exact hq⟩ (by omega)
        refine run_ff (by simpa using hq) ?_
        refine goR hB rfl rfl (by clear ih ihk; simp [conj, Fits_i64]; omega) ?_
        refine run_back ?_
        refine run_to hpin [0, 1] rfl rfl ?_ ihk
        clear ih ihk
        simp [conj, less_rfl, ren_rrow, renR_rrow]
    · have hke : k = r.N i := by omega
      have ih := ih (i + 1) ⟨by omega, fun j hj => by
        rcases Nat.lt_or_ge j i with h | h
        · exact hno j h
        · have : j = i := by omega
          rw [this, ← hke]; exact hkn⟩ (by omega)
      clear ihk
      refine run_ff (by simpa using hk2) ?_
      refine goR hB rfl rfl (by clear ih; simp [conj, Fits_i64]; omega) ?_
      refine run_back ?_
      refine run_to hpin [0, 1] rfl rfl ?_ ih
      clear ih
      simp [conj, less_rfl, ren_rrow, renR_rrow]
  · clear ih
    have hie : i = r.m := by omega
    refine run_ff (by simpa using hin) ?_
    have hbf : b = false := by
      cases hq : b with
      | false => rfl
      | true =>
        obtain ⟨j, h1, k, h2, h3⟩ := hb.1 hq
        exact absurd h3 (hno j (by omega) k h2)
    subst hbf
    refine goR hB rfl rfl (by first | exact conj_nil | simp [conj]) ?_
    refine run_retC hpin () trivial [0] rfl rfl (by first | exact conj_nil | simp [conj]) rfl ?_
    simp [conj, less_rfl, ren_rrow, renR_rrow]
def LowS (r : RS) (tot x : Int) : Prop := (x = -1 ∧ ∀ y, 0 ≤ y → y < tot → OwnS r y) ∨ (0 ≤ x ∧ x < tot ∧ ¬ OwnS r x ∧ ∀ y, 0 ≤ y → y < x → OwnS r y)
theorem lowest_v (K : Kn) (r : RS) (W : Nat → Value) (hW : RUnits K r W) (hm : r.m < 100000) (hN : ∀ i, r.N i < 100000000) (un tot x : Int) (ht : tot ≤ 16777216) (hx : LowS r tot x) (off : Nat) :
    HCK Try.prog K 70 [rGo un tot off r.m] [] [(0, rRow off r W)] 1 (fun _ : Unit => True) (fun _ => ⟨i64 x, [], 1⟩) := by
  refine hck_of_run Try.func70 rfl (fun B hB hK hpin => ?_)
  refine goR hB rfl rfl (by first | exact conj_nil | simp [conj]) ?_
  refine run_loop ?_
  refine run_inv (ι := Nat) hpin (fun i => ∀ y, 0 ≤ y → y < (i : Int) → y < tot → OwnS r y) (fun i => tot.toNat - i) (fun i => [(3, i64 i), (1, .ptr 1 0)]) (fun _ => []) (fun _ => [(1, .cells [i64 un, i64 tot, .sq 0 off 0 3 r.m .no] 50)]) 2 0 (fun y h1 h2 => by omega) [0, 1] rfl rfl (by simp [conj, less_rfl, ren_rrow, renR_rrow]) ?_
  rintro i hno ih
  refine goRT hB [(70, 7)] 400 rfl (by clear ih; first | exact conj_nil | simp [conj]) ?_
  by_cases hin : (i : Int) < tot
  · refine run_tt (by simpa using hin) ?_
    refine goR hB rfl rfl (by clear ih; first | exact conj_nil | simp [conj]) ?_
    by_cases ho : OwnS r i
    · have ih := ih (i + 1) (fun y h1 h2 h3 => by
        rcases Int.lt_or_le y i with h | h
        · exact hno y h1 h h3
        · have : y = i := by omega
          rw [this]; exact ho) (by omega)
      refine run_callCK (owner_v K r W hW hm hN un tot i true ⟨fun _ => ho, fun _ => rfl⟩ off) named hB hK [0] rfl rfl rfl rfl (by first | exact conj_nil | simp [conj]) (by clear ih; simp [conj, less_rfl, ren_rrow, renR_rrow]) ?_
      rintro ⟨⟩ _
      refine ⟨show 1 ≤ 1 by omega, _, _, _, rfl, rfl, rfl, ?_⟩
      refine goRT hB [(70, 13)] 400 rfl (by clear ih; first | exact conj_nil | simp [conj]) ?_
      refine run_ff rfl ?_
      refine goR hB rfl rfl (by clear ih; simp [conj, Fits_i64]; omega) ?_
      refine run_back ?_
      refine run_to hpin [0, 1] rfl rfl ?_ ih
      clear ih
      simp [conj, less_rfl, ren_rrow, renR_rrow]
    · clear ih
      have hxi : x = i := by
        rcases hx with ⟨_, h⟩ | ⟨h1, h2, h3, h4⟩
        · exact absurd (h i (by omega) hin) ho
        · rcases Int.lt_trichotomy x i with h | h | h
          · exact absurd (hno x h1 h h2) h3
          · exact h
          · exact absurd (h4 i (by omega) h) ho
      rw [hxi]
      refine run_callCK (owner_v K r W hW hm hN un tot i false ⟨fun h => absurd h (by decide), fun h => absurd h ho⟩ off) named hB hK [0] rfl rfl rfl rfl (by first | exact conj_nil | simp [conj]) (by simp [conj, less_rfl, ren_rrow, renR_rrow]) ?_
      rintro ⟨⟩ _
      refine ⟨show 1 ≤ 1 by omega, _, _, _, rfl, rfl, rfl, ?_⟩
      refine goRT hB [(70, 13)] 400 rfl (by first | exact conj_nil | simp [conj]) ?_
      refine run_tt rfl ?_
      refine goR hB rfl rfl (by first | exact conj_nil | simp [conj]) ?_
      refine run_retC hpin () trivial [0] rfl rfl (by first | exact conj_nil | simp [conj]) rfl ?_
      simp [conj, less_rfl, ren_rrow, renR_rrow]
  · clear ih
    refine run_ff (by simpa using hin) ?_
    have hx1 : x = -1 := by
      rcases hx with ⟨h, _⟩ | ⟨h1, h2, h3, h4⟩
      · exact h
      · exact absurd (hno x h1 (by omega) h2) h3
    rw [hx1]
    refine goR hB rfl rfl (by first | exact conj_nil | simp [conj]) ?_
    refine run_retC hpin () trivial [0] rfl rfl (by first | exact conj_nil | simp [conj]) rfl ?_
    simp [conj, less_rfl, ren_rrow, renR_rrow]
def sumC (r : RS) : Nat → Int
  | 0 => 0
  | i + 1 => sumC r i + cntR (r.U i) (r.N i)
theorem free_v (K : Kn) (r : RS) (W : Nat → Value) (hW : RUnits K r W) (hm : r.m < 100000) (hN : ∀ i, r.N i < 10000000) (un tot : Int) (h0 : 0 ≤ tot) (ht : tot ≤ 16777216) (off : Nat) :
    HCK Try.prog K 59 [rGo un tot off r.m] [] [(0, rRow off r W)] 1 (fun _ : Unit => True) (fun _ => ⟨i64 (tot - sumC r r.m), [], 1⟩) := by
  have hcn : ∀ i, (cntR (r.U i) (r.N i) : Int) ≤ 10000000 := fun i => by
    have h1 := cntU_le (fun k => r.U i k + 1) (r.N i)
    have h2 := hN i
    unfold cntR; omega
  have hsum : ∀ i, 0 ≤ sumC r i ∧ sumC r i ≤ 10000000 * i := by
    intro i
    induction i with
    | zero => simp [sumC]
    | succ i ih =>
      have := hcn i
      have e : sumC r (i + 1) = sumC r i + cntR (r.U i) (r.N i) := rfl
      omega
  refine hck_of_run Try.func59 rfl (fun B hB hK hpin => ?_)
  refine goR hB rfl rfl (by first | exact conj_nil | simp [conj]) ?_
  refine run_loop ?_
  refine run_inv (ι := Nat) hpin (fun i => i ≤ r.m) (fun i => r.m - i) (fun i => [(4, i64 i), (3, i64 (tot - sumC r i)), (1, .ptr 1 0)]) (fun _ => []) (fun _ => [(1, .cells [i64 un, i64 tot, .sq 0 off 0 3 r.m .no] 50)]) 2 0 (Nat.zero_le _) [0, 1] rfl rfl (by simp [conj, less_rfl, ren_rrow, renR_rrow, sumC]) ?_
  rintro i hi ih
  refine goRT hB [(59, 11)] 400 rfl (by clear ih; first | exact conj_nil | simp [conj]) ?_
  by_cases hin : i < r.m
  · have ih := ih (i + 1) (by omega) (by omega)
    have e0 : 0 + ((i : Nat) : Int).toNat = i := by omega
    have es : sumC r (i + 1) = sumC r i + cntR (r.U i) (r.N i) := rfl
    have h1 := hcn i
    have h2 := hsum i
    refine run_tt (by simpa using hin) ?_
    refine goR hB rfl rfl (by clear ih; simp [conj, hin]) ?_
    rw [e0]
    refine run_callCK (count_hck K (W i) (r.I i) (r.Z i) (r.N i) (r.U i) (by have := hN i; omega) (hW i hin)) named hB hK [] rfl rfl rfl rfl (by first | exact conj_nil | simp [conj]) (by clear ih; simp [conj, less_rfl, rrow]) ?_
    rintro ⟨⟩ _
    refine ⟨show 0 ≤ 0 by omega, _, _, _, rfl, rfl, rfl, ?_⟩
    refine goR hB rfl rfl (by clear ih; simp [conj, Fits_i64]; omega) ?_
    refine run_back ?_
    refine run_to hpin [0, 1] rfl rfl ?_ ih
    clear ih
    simp [conj, less_rfl, ren_rrow, renR_rrow, es]
    omega
  · clear ih
    have hie : i = r.m := by omega
    subst hie
    refine run_ff (by simp) ?_
    refine goR hB rfl rfl (by first | exact conj_nil | simp [conj]) ?_
    refine run_retC hpin () trivial [0] rfl rfl (by first | exact conj_nil | simp [conj]) rfl ?_
    simp [conj, less_rfl, ren_rrow, renR_rrow]
end Sx
