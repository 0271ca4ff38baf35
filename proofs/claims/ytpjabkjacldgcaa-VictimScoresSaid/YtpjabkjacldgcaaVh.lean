/- The useful candidates of a list, in their order. Conditions: as each theorem says. -/
import Derived.Test.YtpjabkjacldgcaaVg
namespace Sx
open Go Go.Proofs
/-- A row of candidates. -/
def ck (c : Nat → Cd) : Nat → Nat → SV := fun i k =>
  match k with
  | 0 => .int .i64 (c i).b
  | 1 => .int .i64 (c i).v
  | 2 => .int .i64 (c i).p
  | 3 => .int .i64 (c i).a
  | _ => .und
theorem ren_ck (nx : Nat) (sg : List Nat) (c : Nat → Cd) (i k : Nat) : ren nx sg (ck c i k) = ck c i k := by
  unfold ck; split <;> simp only [ren, renF, id]
theorem renR_ck (nx : Nat) (sg : List Nat) (c : Nat → Cd) : renR nx sg (ck c) = ck c := by funext i k; exact ren_ck nx sg c i k
def allR (c : Nat → Cd) : Nat → Rk := fun i => ⟨c i, i⟩
theorem allR_app (c : Nat → Cd) (i : Nat) : (fun j => if j = i then allR c i else allR c j) = allR c := by
  funext j; by_cases h : j = i <;> simp [h]
theorem kept_nil : Pure Try.prog 28 [.nilsl, .clo (.func 29) [] []] .nilsl := by
  refine pure_of_run Try.func28 rfl (fun w => ?_)
  refine ex s7_ok 300 rfl (by simp [conj]) ?_
  refine run_loop ?_
  refine ex s7_ok 300 rfl (by simp [conj]) ?_
  refine run_cond rfl (fun h => by simp at h) (fun h => ?_)
  refine ex s7_ok 300 rfl (by simp [conj]) ?_
  exact fin rfl (by simp [conj]) rfl rfl
theorem sort_nil : Pure Try.prog 30 [.nilsl, by27] (.tup []) := by
  refine pure_of_run Try.func30 rfl (fun w => ?_)
  refine ex s7_ok 300 rfl (by simp [conj, Fits_i64]) ?_
  refine run_loop ?_
  refine ex s7_ok 300 rfl (by simp [conj, Fits_i64]) ?_
  refine run_cond rfl (fun h => by simp at h) (fun h => ?_)
  refine ex s7_ok 300 rfl (by simp [conj, Fits_i64]) ?_
  refine run_loop ?_
  refine ex s7_ok 300 rfl (by simp [conj, Fits_i64]) ?_
  refine run_cond rfl (fun h => by simp at h) (fun h => ?_)
  refine ex s7_ok 300 rfl (by simp [conj, Fits_i64]) ?_
  refine run_loop ?_
  refine ex s7_ok 300 rfl (by simp [conj, Fits_i64]) ?_
  refine run_cond rfl (fun h => by simp at h) (fun h => ?_)
  refine ex s7_ok 300 rfl (by simp [conj, Fits_i64]) ?_
  exact run_end rfl (by simp [conj]) (fun _ _ _ hs hu => gives_of hs hu rfl rfl)
def F28 : List SV → Option (List Prop × SV)
  | [.nilsl, .clo (.func f) [] []] => bif Nat.beq f 29 then some ([], .nilsl) else none
  | _ => none
def F30 : List SV → Option (List Prop × SV)
  | [.nilsl, .clo (.func f) [] []] => bif Nat.beq f 27 then some ([], .tup []) else none
  | _ => none
theorem F28_ok : PureOk Try.prog 28 F28 := by
  intro xs cs r h hc
  unfold F28 at h
  split at h <;> first | exact (none_ne h).elim | skip
  obtain ⟨h1, h2⟩ := bif_some h
  have := beq_nat h1; subst this
  simp only [Prod.mk.injEq] at h2; obtain ⟨rfl, rfl⟩ := h2
  exact ⟨rfl, kept_nil⟩
theorem F30_ok : PureOk Try.prog 30 F30 := by
  intro xs cs r h hc
  unfold F30 at h
  split at h <;> first | exact (none_ne h).elim | skip
  obtain ⟨h1, h2⟩ := bif_some h
  have := beq_nat h1; subst this
  simp only [Prod.mk.injEq] at h2; obtain ⟨rfl, rfl⟩ := h2
  exact ⟨rfl, sort_nil⟩
def s8 : SumL := (28, F28) :: (30, F30) :: s7
theorem s8_ok : SumOk Try.prog (sumOf s8) := sumOk_cons F28_ok (sumOk_cons F30_ok s7_ok)
/-- e's first m are the useful ones of the n candidates, in their order. -/
def Ord (n : Nat) (c : Nat → Cd) (m : Nat) (e : Nat → Rk) : Prop := ∃ f, Filt n (allR c) m f ∧ PmS 0 m f e ∧ SortedOn 0 m e
def orOk (n : Nat) (c : Nat → Cd) : Option Ks → Prop
  | none => ∃ i, i < n ∧ (c i).ok = false
  | some none => (∀ i, i < n → (c i).ok = true) ∧ ∀ i, i < n → (c i).use = false
  | some (some (m, cap, e)) => (∀ i, i < n → (c i).ok = true) ∧ 0 < m ∧ m ≤ cap ∧ Ord n c m e
def orOut : Option Ks → Out
  | none => ⟨.tup [.nilsl, .ff], [], 2⟩
  | some z => ⟨.tup [ksV z, .tt], ksH z, 2⟩
abbrev candH (off n : Nat) (c : Nat → Cd) : Hp := [(0, .row off n n 4 (ck c) 36)]
def alV (i : Nat) : Option Nat → SV
  | none => .nilsl
  | some cap => .sl 1 0 0 5 i cap
def alH (i : Nat) (c : Nat → Cd) : Option Nat → Hp
  | none => []
  | some cap => [(1, .row 0 i cap 5 (rk (allR c)) 53)]
theorem order_hc (off n cap : Nat) (c : Nat → Cd) (hnc : n ≤ cap) (hn : n ≤ maxN) :
    HC Try.prog 18 [.sl 0 off 0 4 n cap] [] (candH off n c) 1 (orOk n c) orOut := by
  have hn : n ≤ 19 := hn
  refine hc_of_run Try.func18 rfl (fun B hB hpin => ?_)
  refine exN hB s8_ok 300 rfl (by simp [conj]; omega) ?_
  refine run_loop ?_
  refine run_inv (ι := Nat × Option Nat) hpin (fun x => x.1 ≤ n ∧ (∀ k, k < x.1 → (c k).ok = true) ∧ (x.2 = none ↔ x.1 = 0) ∧ ∀ cp, x.2 = some cp → x.1 ≤ cp) (fun x => n - x.1)
    (fun x => [(4, alV x.1 x.2), (14, .sl 0 off 0 4 n n), (15, .int .i64 (n : Int)), (16, .int .i64 (x.1 : Int))]) (fun _ => []) (fun x => alH x.1 c x.2) 2 (0, none)
    ⟨by simp, fun k h => by simp at h, by simp, fun cp h => by simp at h⟩ [0, 1] rfl rfl (by simp [conj, ren_ck, less_rfl]) ?_
  rintro ⟨i, z⟩ ⟨h1, h2, h3, h4⟩ ih
  have h1 : i ≤ n := h1
  have ei : 0 + (i : Int).toNat = i := by omega
  rcases z with _ | cp
  · have h0 : i = 0 := h3.1 rfl
    refine exN hB s8_ok 300 rfl (by simp [conj]) ?_
    refine run_cond rfl (fun h => ?_) (fun h => ?_)
    · have hi : i < n := by simpa using h
      refine exN hB s8_ok 300 rfl (by simp only [conj, Fits_i64, and_true, true_and]; omega) ?_
      refine run_cond rfl (fun hu => ?_) (fun hu => ?_)
      · have hu : (c i).ok = false := by simp only [ei] at hu; simpa [Cd.ok] using hu
        refine exN hB s8_ok 300 rfl (by simp [conj]) ?_
        exact run_retC hpin none ⟨i, hi, hu⟩ [0, 1] rfl rfl (by simp [conj]) rfl (by simp [conj, ren_ck, less_rfl])
      · have hu : (c i).ok = true := by simp only [ei] at hu; simpa [Cd.ok] using hu
        refine exN hB s8_ok 300 rfl (by simp [conj]) ?_
        refine run_append hB rfl rfl (show (0 + 1) * 5 ≤ 5 ∧ 0 < 1 ∧ (0 + 1) * 40 ≤ 140737488355328 ∧ 0 + 1 ≤ 9223372036854775807 ∧ True by simp) ?_
        intro cap' hcap
        refine ⟨_, _, _, rfl, rfl, rfl, ?_⟩
        refine exN hB s8_ok 300 rfl (by simp only [conj, Fits_i64, and_true, true_and]; omega) ?_
        refine run_back ?_
        refine run_to hpin [0, 4] rfl rfl (by
          simp only [ei, ren_rk, ren_ck, conj, List.cons_append, List.nil_append]
          repeat' apply And.intro
          all_goals first | rfl | trivial | exact fun _ _ _ _ => Less.rfl | exact fun i' k hi hk => Less.of ((app0_rk (allR c i) _ (allR c) i' k (by omega) hk).trans (by rw [show (fun j => if j = 0 then allR c i else allR c j) = allR c by rw [show (0 : Nat) = i from (h3.1 rfl).symm]; exact allR_app c i])).symm | exact fun h => h | exact Nat.le_refl _ | exact (fun h => by omega) | (show _ = _; omega) | (show _ ≤ _; omega) | skip) (ih (i + 1, some cap') ⟨by show i + 1 ≤ n; omega, fun k hk => by
            by_cases e : k = i
            · subst e; exact hu
            · exact h2 k (by have hk : k < i + 1 := hk; show k < i; omega), by simp, fun q hq => by
              injection hq with hq; subst hq
              have hcap : 0 + 1 ≤ cap' := hcap
              show i + 1 ≤ cap'; omega⟩ (by show n - (i + 1) < n - i; omega))
    · have hn0 : n = 0 := by simp at h; omega
      refine exN hB s8_ok 300 rfl (by simp [conj]) ?_
      refine run_retC hpin (some none) ⟨fun k hk => by omega, fun k hk => by omega⟩ [0, 1] rfl rfl (by simp [conj]) rfl (by simp [conj, ren_ck, less_rfl])
  · have h0 : i ≤ cp := h4 cp rfl
    refine exN hB s8_ok 300 rfl (by simp [conj]) ?_
    refine run_cond rfl (fun h => ?_) (fun h => ?_)
    · have hi : i < n := by simpa using h
      refine exN hB s8_ok 300 rfl (by simp only [conj, Fits_i64, and_true, true_and]; omega) ?_
      refine run_cond rfl (fun hu => ?_) (fun hu => ?_)
      · have hu : (c i).ok = false := by simp only [ei] at hu; simpa [Cd.ok] using hu
        refine exN hB s8_ok 300 rfl (by simp [conj]) ?_
        exact run_retC hpin none ⟨i, hi, hu⟩ [0, 1] rfl rfl (by simp [conj]) rfl (by simp [conj, ren_ck, less_rfl])
      · have hu : (c i).ok = true := by simp only [ei] at hu; simpa [Cd.ok] using hu
        refine exN hB s8_ok 300 rfl (by simp [conj]) ?_
        refine run_append hB rfl rfl (show (i = i ∧ cp = cp) ∧ (0 + 1) * 5 ≤ 5 ∧ 0 < 1 ∧ (i + 1) * 40 ≤ 140737488355328 ∧ i + 1 ≤ 9223372036854775807 ∧ True by refine ⟨⟨rfl, rfl⟩, ?_, ?_, ?_, ?_, trivial⟩ <;> omega) ?_
        intro cap' hcap
        refine ⟨_, _, _, rfl, rfl, rfl, ?_⟩
        refine exN hB s8_ok 300 rfl (by simp only [conj, Fits_i64, and_true, true_and]; omega) ?_
        refine run_back ?_
        refine run_to hpin [0, 4] rfl rfl (by
          simp only [ei, ren_rk, ren_ck, conj, List.cons_append, List.nil_append]
          repeat' apply And.intro
          all_goals first | rfl | trivial | exact fun _ _ _ _ => Less.rfl | exact fun i' k hi hk => Less.of ((app_rk (allR c i) (allR c) i i' k hi hk).trans (by rw [allR_app])).symm | exact fun h => h | exact Nat.le_refl _ | exact (fun h => by omega) | (show _ = _; omega) | (show _ ≤ _; omega) | skip) (ih (i + 1, some cap') ⟨by show i + 1 ≤ n; omega, fun k hk => by
            by_cases e : k = i
            · subst e; exact hu
            · exact h2 k (by have hk : k < i + 1 := hk; show k < i; omega), by simp, fun q hq => by
              injection hq with hq; subst hq
              have hcap : i + 1 ≤ cap' := hcap
              show i + 1 ≤ cap'; omega⟩ (by show n - (i + 1) < n - i; omega))
    · have hin : i = n := by simp at h; omega
      subst hin
      refine exN hB s8_ok 300 rfl (by simp [conj]) ?_
      refine run_callC (kept_hc i cp (allR c) h0 (by omega)) named hB [1] rfl rfl rfl rfl (by simp [conj]) (by simp [conj, ren_rk, less_rfl]) ?_
      rintro (_ | ⟨m, cp', e⟩) hz
      · have hz : Filt i (allR c) 0 (allR c) := hz
        refine ⟨by decide, _, _, _, rfl, rfl, rfl, ?_⟩
        refine exN hB s8_ok 300 rfl (by simp [conj]) ?_
        refine run_retC hpin (some none) ⟨h2, fun k hk => ?_⟩ [0, 1] rfl rfl (by simp [conj]) rfl (by simp [conj, ren_ck, less_rfl])
        obtain ⟨φ, _, _, q3⟩ := hz
        cases hu : (c k).use with
        | false => rfl
        | true => obtain ⟨q, q1, _⟩ := q3 k hk hu; omega
      · have hz : 0 < m ∧ m ≤ cp' ∧ Filt i (allR c) m e := hz
        have hmi := hz.2.2.le
        refine ⟨show 1 ≤ 2 by omega, _, _, _, rfl, rfl, rfl, ?_⟩
        refine exN hB s8_ok 300 rfl (by simp [conj]) ?_
        refine run_heap (hp' := [(2, .row 0 m cp' 5 (rk e) 53), (1, .row 0 i cp 5 (rk (allR c)) 53)]) (by simp only [renR_rk]) ?_
        have hfl := hz.2.2
        obtain ⟨φ, q1, q2, q3⟩ := hz.2.2
        have hge : ∀ k, k < m → good (e k) := fun k hk => ⟨by rw [(q2 k hk).2.1]; exact h2 _ (q2 k hk).1, (q2 k hk).2.2⟩
        have hat : ∀ a b, a < b → b < m → (e a).at_ < (e b).at_ := fun a b hab hb => by
          rw [(q2 a (by omega)).2.1, (q2 b hb).2.1]
          have := q1 a b hab hb
          show ((φ a : Nat) : Int) < ((φ b : Nat) : Int)
          omega
        refine run_callC (sort_hc m cp' e (by show m ≤ 19; omega) hge hat) named hB [2] rfl rfl rfl rfl (by simp [conj]) (by simp [conj, ren_rk, less_rfl]) ?_
        rintro d' ⟨p1, p2⟩
        refine ⟨Nat.le_refl _, _, _, _, rfl, rfl, rfl, ?_⟩
        refine run_heap (hp' := [(2, .row 0 m cp' 5 (rk d') 53), (1, .row 0 i cp 5 (rk (allR c)) 53)]) (by simp only [renR_rk]) ?_
        refine exN hB s8_ok 300 rfl (by simp [conj]) ?_
        exact run_retC hpin (some (some (m, cp', d'))) ⟨h2, hz.1, hz.2.1, e, hfl, p1, p2⟩ [0, 2] rfl rfl (by simp [conj]) rfl (by simp [conj, ren_rk, ren_ck, less_rfl])
end Sx
