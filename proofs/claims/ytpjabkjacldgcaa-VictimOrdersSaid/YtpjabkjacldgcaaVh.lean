/- The useful candidates of a list, in their order. Conditions: as each theorem says. -/
import Derived.Test.YtpjabkjacldgcaaVg
namespace Sx
open Go Go.Proofs
/-- A row of candidates. -/
def ck (c : Nat → Cd) : Nat → Nat → SV := fun i k =>
  match k with
  | 0 => .int .i64 (c i).b
  | 1 => .int .i64 (c i).v
  | 2 => .int .i64 (c i).p
  | 3 => .int .i64 (c i).a
  | _ => .und
theorem ren_ck (nx : Nat) (sg : List Nat) (c : Nat → Cd) (i k : Nat) : ren nx sg (ck c i k) = ck c i k := by
  unfold ck; split <;> simp only [ren, renF, id]
theorem renR_ck (nx : Nat) (sg : List Nat) (c : Nat → Cd) : renR nx sg (ck c) = ck c := by funext i k; exact ren_ck nx sg c i k
def allR (c : Nat → Cd) : Nat → Rk := fun i => ⟨c i, i⟩
theorem allR_app (c : Nat → Cd) (i : Nat) : (fun j => if j = i then allR c i else allR c j) = allR c := by
  funext j; by_cases h : j = i <;> simp [h]
/-- e's first m are the useful ones of the n candidates, in their order. -/
def Ord (n : Nat) (c : Nat → Cd) (m : Nat) (e : Nat → Rk) : Prop := ∃ f, Filt n (allR c) m f ∧ PmS 0 m f e ∧ SortedOn 0 m e
abbrev Ks := Option (Nat × (Nat → Rk))
def orOk (n : Nat) (c : Nat → Cd) : Ks → Prop
  | none => ∃ i, i < n ∧ (c i).ok = false
  | some (m, e) => (∀ i, i < n → (c i).ok = true) ∧ Ord n c m e
def orOut : Ks → Out
  | none => ⟨.tup [.nilsl, .ff], [], 2⟩
  | some z => ⟨.tup [.sq 1 0 0 5 z.1 .own, .tt], [(1, .row 0 z.1 z.1 5 (rk z.2) 53)], 2⟩
abbrev candH (off n : Nat) (c : Nat → Cd) : Hp := [(0, .row off n n 4 (ck c) anyTy)]
set_option maxHeartbeats 1000000 in
theorem order_hc (off n : Nat) (c : Nat → Cd) (hn : n ≤ maxN) :
    HC Try.prog 18 [.sq 0 off 0 4 n .no] [] (candH off n c) 1 (orOk n c) orOut := by
  have hn : n ≤ 39 := hn
  refine hc_of_run Try.func18 rfl (fun B hB hpin => ?_)
  refine goN hB s7_ok rfl rfl (by simp [conj]) ?_
  refine run_loop ?_
  refine run_inv (ι := Nat) hpin (fun x => x ≤ n ∧ (∀ k, k < x → (c k).ok = true)) (fun x => n - x)
    (fun x => [(4, .sq 1 0 0 5 x .own), (14, .sq 0 off 0 4 n .no), (15, .int .i64 (n : Int)), (16, .int .i64 (x : Int))]) (fun _ => []) (fun x => [(1, .row 0 x x 5 (rk (allR c)) 53)]) 2 0
    ⟨by simp, fun k h => by omega⟩ [0, 1] rfl rfl (by simp [conj, ren_ck, less_rfl]) ?_
  rintro i ⟨h1, h2⟩ ih
  have ei : 0 + (i : Int).toNat = i := by omega
  refine goN hB s7_ok rfl rfl (by simp [conj]) ?_
  refine run_cond rfl (fun h => ?_) (fun h => ?_)
  · have hi : i < n := by simpa using h
    refine goN hB s7_ok rfl rfl (by simp only [conj, Fits_i64, and_true, true_and]; omega) ?_
    refine run_cond rfl (fun hu => ?_) (fun hu => ?_)
    · have hu : (c i).ok = false := by simp only [ei] at hu; simpa [Cd.ok] using hu
      refine goN hB s7_ok rfl rfl (by simp [conj]) ?_
      exact run_retC hpin none ⟨i, hi, hu⟩ [0, 1] rfl rfl (by simp [conj]) rfl (by simp [conj, ren_ck, less_rfl])
    · have hu : (c i).ok = true := by simp only [ei] at hu; simpa [Cd.ok] using hu
      refine goN hB s7_ok rfl rfl (by simp only [conj, Fits_i64, and_true, true_and, List.length_cons, List.length_nil]; omega) ?_
      refine run_back ?_
      refine run_to hpin [0, 4] rfl rfl (by
        simp only [ei, ren_rk, ren_ck, conj, List.cons_append, List.nil_append]
        repeat' apply And.intro
        all_goals first | rfl | trivial | exact fun _ _ _ _ => Less.rfl | exact fun i' k hi hk => Less.of ((app_rk (allR c i) (allR c) i i' k hi hk).trans (by rw [allR_app])).symm | exact fun h => h | exact Nat.le_refl _ | omega) (ih (i + 1) ⟨by omega, fun k hk => by
          by_cases e : k = i
          · subst e; exact hu
          · exact h2 k (by omega)⟩ (by omega))
  · have hin : i = n := by simp at h; omega
    subst hin
    refine goN hB s7_ok rfl rfl (by simp [conj]) ?_
    refine run_callC (kept_hc i (allR c) (by omega)) named hB [1] rfl rfl rfl rfl (by simp [conj]) (by simp [conj, ren_rk, less_rfl]) ?_
    rintro ⟨m, e⟩ hz
    have hz : Filt i (allR c) m e := hz
    have hmi := hz.le
    refine ⟨show 1 ≤ 2 by omega, _, _, _, rfl, rfl, rfl, ?_⟩
    refine goN hB s7_ok rfl rfl (by simp [conj]) ?_
    refine run_heap (hp' := [(2, .row 0 m m 5 (rk e) 53), (1, .row 0 i i 5 (rk (allR c)) 53)]) (by simp only [renR_rk]) ?_
    have hfl := hz
    obtain ⟨φ, q1, q2, q3⟩ := hz
    have hge : ∀ k, k < m → good (e k) := fun k hk => ⟨by rw [(q2 k hk).2.1]; exact h2 _ (q2 k hk).1, (q2 k hk).2.2⟩
    have hat : ∀ a b, a < b → b < m → (e a).at_ < (e b).at_ := fun a b hab hb => by
      rw [(q2 a (by omega)).2.1, (q2 b hb).2.1]
      have := q1 a b hab hb
      show ((φ a : Nat) : Int) < ((φ b : Nat) : Int)
      omega
    refine run_callC (sort_hc m m e (by show m ≤ 39; omega) hge hat) named hB [2] rfl rfl rfl rfl (by simp [conj]) (by simp [conj, ren_rk, less_rfl]) ?_
    rintro d' ⟨p1, p2⟩
    refine ⟨Nat.le_refl _, _, _, _, rfl, rfl, rfl, ?_⟩
    refine run_heap (hp' := [(2, .row 0 m m 5 (rk d') 53), (1, .row 0 i i 5 (rk (allR c)) 53)]) (by simp only [renR_rk]) ?_
    refine goN hB s7_ok rfl rfl (by simp [conj]) ?_
    exact run_retC hpin (some (m, d')) ⟨h2, e, hfl, p1, p2⟩ [0, 2] rfl rfl (by simp [conj]) rfl (by simp [conj, ren_rk, ren_ck, less_rfl])
end Sx
