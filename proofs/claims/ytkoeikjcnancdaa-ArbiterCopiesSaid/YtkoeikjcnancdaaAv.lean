/- Turns without weights. No program in sight. Conditions: as each theorem says. -/
import Derived.Test.YtkoeikjcnancdaaAu
set_option linter.unusedSimpArgs false
set_option linter.unusedVariables false
namespace Sx
open Go Go.Proofs
set_option maxRecDepth 100000
def ldT (W : Nat → Int) (i : Nat) : Ld := (List.range i).map fun j : Nat => (3 * (j : Int), W j)
theorem ldT_succ (W : Nat → Int) (i : Nat) : ldT W (i + 1) = ldT W i ++ [(3 * (i : Int), W i)] := by simp [ldT, List.range_succ]
theorem ldT_len (W : Nat → Int) (i : Nat) : (ldT W i).length = i := by simp [ldT]
structure TSt (s : ASt) (b : Int) (i : Nat) : Prop where
  w : s.w = false
  b : s.b = b
  h : ∀ a, s.h a = true ↔ ∃ j : Nat, j < i ∧ a = 3 * (j : Int)
theorem TSt.new (b : Int) : TSt (aNew false b 0 0 0) b 0 := ⟨rfl, rfl, fun a => by simp [aNew]⟩
theorem TSt.cred {s : ASt} {b : Int} {i : Nat} (h : TSt s b i) : CredOk s := fun hw => by rw [h.w] at hw; cases hw
theorem TSt.add {s : ASt} {b : Int} {i : Nat} (h : TSt s b i) (hi : i < 1000) {c : Int} (hc : 0 ≤ c ∧ c ≤ 3) : addE s (3 * (i : Int)) c = 0 ∧ TSt (addS s (3 * (i : Int)) c) b (i + 1) ∧ (addS s (3 * (i : Int)) c).l0 = s.l0 := by
  have h1 : ¬ (3 * (i : Int) < 0 ∨ 65535 < 3 * (i : Int) ∨ c < 0 ∨ 3 < c) := by omega
  have h2 : s.h (3 * (i : Int)) = false := by
    cases hb : s.h (3 * (i : Int)) with
    | false => rfl
    | true => obtain ⟨j, h3, h4⟩ := (h.h _).1 hb; omega
  have h3 : addS s (3 * (i : Int)) c = { s with h := fun a => ieq a (3 * (i : Int)) || s.h a, v := fun a => if a = 3 * (i : Int) then c else s.v a } := by simp [addS, h1, h2]
  refine ⟨by simp [addE, h1, h2], ?_, by rw [h3]⟩
  rw [h3]
  refine ⟨h.w, h.b, fun a => ?_⟩
  show (ieq a (3 * (i : Int)) || s.h a) = true ↔ _
  rw [Bool.or_eq_true, h.h]
  unfold ieq
  constructor
  · rintro (h4 | ⟨j, h4, h5⟩)
    · exact ⟨i, Nat.lt_succ_self i, by simpa using h4⟩
    · exact ⟨j, by omega, h5⟩
  · rintro ⟨j, h4, h5⟩
    rcases Nat.lt_or_ge j i with h6 | h6
    · exact .inr ⟨j, h6, h5⟩
    · exact .inl (by have : j = i := by omega
                     subst this; simpa using h5)
theorem ldT_has (W : Nat → Int) (n : Nat) (a : Int) : hasQ (ldT W n) a = true ↔ ∃ j : Nat, j < n ∧ a = 3 * (j : Int) := by
  rw [hasQ_iff]
  unfold ldT
  constructor
  · rintro ⟨p, hp, rfl⟩
    obtain ⟨j, hj, rfl⟩ := List.mem_map.1 hp
    exact ⟨j, List.mem_range.1 hj, rfl⟩
  · rintro ⟨j, hj, rfl⟩
    exact ⟨_, List.mem_map.2 ⟨j, List.mem_range.2 hj, rfl⟩, rfl⟩
theorem ldT_wv (W : Nat → Int) {n j : Nat} (hj : j < n) : wv (ldT W n) (3 * (j : Int)) = W j := by
  induction n with
  | zero => omega
  | succ n ih =>
    rw [ldT_succ, wv_snoc]
    · show (if 3 * (j : Int) = 3 * (n : Int) then W n else _) = _
      split
      · rw [show j = n by omega]
      · exact ih (by omega)
    · cases hb : hasQ (ldT W n) (3 * (n : Int)) with
      | false => rfl
      | true => obtain ⟨k, h1, h2⟩ := (ldT_has W n _).1 hb; omega
theorem TSt.ok {s : ASt} {b : Int} {n : Nat} (h : TSt s b n) {W : Nat → Int} (hW : ∀ j, j < n → 1 ≤ W j) : LdOk s (ldT W n) := by
  intro i hi
  have hi' : i < n := by simpa [ldT_len] using hi
  have e : (ldT W n)[i] = (3 * (i : Int), W i) := by simp [ldT]
  refine ⟨?_, ?_, ?_⟩
  · rw [e]; exact (h.h _).2 ⟨i, hi', rfl⟩
  · rw [e]
    have : (ldT W n).take i = ldT W i := by
      unfold ldT
      rw [← List.map_take, List.take_range, Nat.min_eq_left (by omega)]
    rw [this]
    cases hb : hasQ (ldT W i) (3 * (i : Int)) with
    | false => rfl
    | true => obtain ⟨k, h1, h2⟩ := (ldT_has W i _).1 hb; omega
  · rw [e]; have := hW i hi'; show 0 ≤ W i; omega
def kT (n : Nat) : List Int := (List.range n).map fun j : Nat => 3 * (j : Int)
theorem kT_keys {n : Nat} {W : Nat → Int} (hW : ∀ j, j < n → 1 ≤ W j) : KeysOf (fun a => hasQ (ldT W n) a && !decide (wv (ldT W n) a = 0)) (kT n) := by
  refine ⟨?_, fun a => ?_⟩
  · unfold kT
    rw [List.pairwise_map]
    exact List.pairwise_lt_range.imp fun {a b} h => by omega
  · rw [Bool.and_eq_true, ldT_has]
    unfold kT
    rw [List.mem_map]
    constructor
    · rintro ⟨j, hj, rfl⟩
      have hj := List.mem_range.1 hj
      refine ⟨⟨j, hj, rfl⟩, ?_⟩
      rw [ldT_wv W hj]
      have := hW j hj
      simp; omega
    · rintro ⟨⟨j, hj, rfl⟩, _⟩
      exact ⟨j, List.mem_range.2 hj, rfl⟩
def LastOk (s : ASt) (n i : Nat) : Prop := ((∀ j : Nat, j < i → 3 * (j : Int) ≤ s.l0) ∧ s.l0 < 3 * (i : Int)) ∨ (i = 0 ∧ ∀ j : Nat, j < n → 3 * (j : Int) ≤ s.l0)
theorem LastOk.turn {s : ASt} {n : Nat} (h : LastOk s n n) : LastOk s n 0 := by
  rcases h with ⟨h, _⟩ | ⟨rfl, h⟩
  · exact .inr ⟨rfl, h⟩
  · exact .inr ⟨rfl, h⟩
def wantT (b : Int) (W : Nat → Int) (i : Nat) : Int := capB b (W i)
theorem TSt.pick {s : ASt} {b : Int} {n i : Nat} (h : TSt s b n) (hi : i < n) {W : Nat → Int} (hl : LastOk s n i) :
    pickR s (kT n) (wv (ldT W n)) = ⟨3 * (i : Int), wantT b W i, 0, setLast s 0 (3 * (i : Int))⟩ := by
  have hc : ∀ q, s.cls q = 0 := fun q => by simp [ASt.cls, h.w]
  have h0 : waits s (kT n) 0 = true := by
    unfold waits
    rw [List.any_eq_true]
    exact ⟨3 * (i : Int), List.mem_map.2 ⟨i, List.mem_range.2 hi, rfl⟩, by simp [hc]⟩
  have h1 : chooseR s (kT n) = (0, true, s) := by simp [chooseR, h0]
  have h2 : keepL s 0 (kT n) = kT n := by
    unfold keepL; rw [List.filter_eq_self]; intro q _; simp [hc]
  have hlen : (kT n).length = n := by simp [kT]
  have hg : ∀ j (hj : j < (kT n).length), (kT n)[j] = 3 * (j : Int) := fun j hj => by simp [kT]
  have h3 : nextQ s 0 (kT n) = 3 * (i : Int) := by
    unfold nextQ findR
    rcases hl with ⟨h3, h4⟩ | ⟨rfl, h3⟩
    · rw [FirstAt.found (p := fun q => decide (s.last 0 < q)) (l := kT n) (i := i) (by omega) (by rw [hg]; simpa [ASt.last] using h4) (fun j hj => by
        rw [hg]
        have := h3 j hj
        simp [ASt.last]; omega)]
      simp [hg]
    · have : (kT n).find? (fun q => decide (s.last 0 < q)) = none := by
        rw [List.find?_eq_none]
        intro q hq
        obtain ⟨j, hj, rfl⟩ := List.mem_map.1 hq
        have := h3 j (List.mem_range.1 hj)
        simp [ASt.last]; omega
      rw [this]
      simp [kT, List.getD_eq_getElem?_getD, hi]
  unfold pickR
  rw [h1]
  simp only [if_true]
  rw [h2]
  unfold pickC
  rw [if_pos rfl, h3, ldT_wv W hi, h.b]
  rfl
theorem TSt.last {s : ASt} {b : Int} {n : Nat} (h : TSt s b n) (i : Nat) : TSt (setLast s 0 (3 * (i : Int))) b n := ⟨h.w, h.b, h.h⟩
theorem LastOk.next (s : ASt) (n i : Nat) : LastOk (setLast s 0 (3 * (i : Int))) n (i + 1) := .inl ⟨fun j hj => by show 3 * (j : Int) ≤ 3 * (i : Int); omega, by show 3 * (i : Int) < _; omega⟩
theorem LastOk.zero {s : ASt} {b : Int} {n : Nat} (h : s.l0 = -1) : LastOk s n 0 := .inl ⟨fun j hj => by omega, by omega⟩
end Sx
