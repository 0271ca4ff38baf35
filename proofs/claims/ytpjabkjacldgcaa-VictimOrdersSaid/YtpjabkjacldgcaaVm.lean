/- The merge of two sorted parts of a row, as the library does it. Conditions: as each theorem says. -/
import Derived.Test.YtpjabkjacldgcaaVe
import Derived.Test.YtpjabkjacldgcaaVq
import Derived.Test.YtpjabkjacldgcaaEng29
namespace Sx
open Go Go.Proofs
def modeN (s : SumL) : Mode := { st := true, unr := false, inl := fun _ => false, sum := sumOf s, keep := fun _ => none }
theorem exN {B : Base} (hB : B.ok) {ro : Hp} {f : FuncId} {R : Ending → World → Prop} {s : SumL} (hs : SumOk Try.prog (sumOf s)) (m : Nat) {cs : List Prop} {c c' : Cfg} (h : exec Try.prog (modeN s) ro m [] c = (cs, c')) (hc : conj cs)
    (hr : Run Try.prog ro B f R c') : Run Try.prog ro B f R c := run_exec named hB hs m h hc hr
theorem goN {B : Base} (hB : B.ok) {ro : Hp} {f : FuncId} {R : Ending → World → Prop} {s : SumL} (hs : SumOk Try.prog (sumOf s)) {cs0 cs : List Prop} {c c0 c' : Cfg} (h0 : stepD Try.prog (modeN s) ro c = some (cs0, c0)) (h : execG Try.prog (modeN s) ro 400 cs0 c0 = (cs, c')) (hc : conj cs)
    (hr : Run Try.prog ro B f R c') : Run Try.prog ro B f R c := run_go mixed named hB hs 400 h0 h hc hr
theorem swapR_hc (N cap a b n : Nat) (d : Nat → Rk) (h : a + n ≤ b) (hb : b + n ≤ N) (hN : N < 1000000) :
    HC Try.prog 38 [.sq 0 0 0 5 N .no, .int .i64 a, .int .i64 b, .int .i64 n, by27] (rowH N cap d) [] 1 (fun d' : Nat → Rk => d' = swr d a b n) (fun d' => ⟨.tup [], rowH N cap d', 1⟩) := by
  refine hc_of_run Try.func38 rfl (fun B hB hpin => ?_)
  refine goN hB s7_ok rfl rfl (by simp [conj]) ?_
  refine run_loop ?_
  refine run_inv (ι := Nat) hpin (fun i => i ≤ n) (fun i => n - i) (fun i => [(0, .sq 0 0 0 5 N .no), (1, .int .i64 a), (2, .int .i64 b), (3, .int .i64 n), (10, .int .i64 (i : Int))]) (fun _ => []) (fun i => rowH N cap (swr d a b i)) 1 0
    (Nat.zero_le _) [0] rfl rfl (by simp [conj, ren_rk, less_rfl, swr_zero]) ?_
  intro i hi ih
  refine goN hB s7_ok rfl rfl (by simp [conj]) ?_
  refine run_cond rfl (fun h => ?_) (fun h => ?_)
  · have hin : i < n := by simpa using h
    have e1 : 0 + ((a : Int) + (i : Int)).toNat = a + i := by omega
    have e2 : 0 + ((b : Int) + (i : Int)).toNat = b + i := by omega
    refine goN hB s7_ok rfl rfl (by simp only [conj, Fits_i64, and_true, true_and]; omega) ?_
    refine run_back ?_
    refine run_to hpin [0] rfl rfl (by
      simp only [e1, e2, updF_rk, swp_upd (show b + i ≠ a + i by omega), swr_succ d a b n i (by omega) hin, ren_rk]
      simp [conj, less_rfl]) (ih (i + 1) (by omega) (by omega))
  · have hin : i = n := by simp at h; omega
    subst hin
    refine goN hB s7_ok rfl rfl (by simp [conj]) ?_
    exact run_endC (ψ := fun d' : Nat → Rk => d' = swr d a b i) hpin (swr d a b i) rfl [0] rfl rfl (by simp [conj]) rfl (by simp [conj, ren_rk, less_rfl])
theorem rotate_hc (N cap a m b : Nat) (d : Nat → Rk) (h1 : a < m) (h2 : m < b) (hb : b ≤ N) (hN : N < 1000000) :
    HC Try.prog 37 [.sq 0 0 0 5 N .no, .int .i64 a, .int .i64 m, .int .i64 b, by27] (rowH N cap d) [] 1 (fun d' : Nat → Rk => d' = rotF d a m b) (fun d' => ⟨.tup [], rowH N cap d', 1⟩) := by
  refine hc_of_run Try.func37 rfl (fun B hB hpin => ?_)
  refine goN hB s7_ok rfl rfl (by simp only [conj, Fits_i64, and_true, true_and]; omega) ?_
  refine run_loop ?_
  refine run_inv (ι := Nat × Nat × (Nat → Rk)) hpin (fun x => 0 < x.1 ∧ 0 < x.2.1 ∧ x.1 ≤ m - a ∧ x.2.1 ≤ b - m ∧ rotF x.2.2 (m - x.1) m (m + x.2.1) = rotF d a m b) (fun x => x.1 + x.2.1)
    (fun x => [(0, .sq 0 0 0 5 N .no), (2, .int .i64 m), (4, by27), (10, .int .i64 (x.1 : Int)), (11, .int .i64 (x.2.1 : Int))]) (fun _ => []) (fun x => rowH N cap x.2.2) 1 (m - a, b - m, d)
    ⟨by show 0 < m - a; omega, by show 0 < b - m; omega, Nat.le_refl _, Nat.le_refl _, by show rotF d (m - (m - a)) m (m + (b - m)) = _; rw [show m - (m - a) = a by omega, show m + (b - m) = b by omega]⟩ [0] rfl rfl (by
      simp [conj, ren_rk, less_rfl]; omega) ?_
  rintro ⟨i, j, e⟩ ⟨p1, p2, p3, p4, p5⟩ ih
  have p1 : 0 < i := p1
  have p2 : 0 < j := p2
  have p3 : i ≤ m - a := p3
  have p4 : j ≤ b - m := p4
  have p5 : rotF e (m - i) m (m + j) = rotF d a m b := p5
  have c1 : (m : Int) - (i : Int) = ((m - i : Nat) : Int) := by omega
  refine goN hB s7_ok rfl rfl (by simp [conj]) ?_
  refine run_cond rfl (fun h => ?_) (fun h => ?_)
  · have hij : i ≠ j := by simp at h; omega
    refine goN hB s7_ok rfl rfl (by simp [conj]) ?_
    refine run_cond rfl (fun h => ?_) (fun h => ?_)
    · have hij : j < i := by simpa using h
      refine goN hB s7_ok rfl rfl (by simp only [conj, Fits_i64, and_true, true_and]; omega) ?_
      refine run_callC (swapR_hc N cap (m - i) m j e (by omega) (by omega) hN) named hB [0] rfl rfl rfl rfl (by simp [conj]) (by simp [conj, ren_rk, less_rfl]; omega) ?_
      rintro d' rfl
      refine ⟨Nat.le_refl _, _, _, _, rfl, rfl, rfl, ?_⟩
      refine run_heap (hp' := rowH N cap (swr e (m - i) m j)) (by simp only [renR_rk]) ?_
      refine goN hB s7_ok rfl rfl (by simp only [conj, Fits_i64, and_true, true_and]; omega) ?_
      refine run_back ?_
      refine run_to hpin [0] rfl rfl (by simp [conj, ren_rk, less_rfl]; omega) (ih (i - j, j, swr e (m - i) m j) ⟨by show 0 < i - j; omega, p2, by show i - j ≤ m - a; omega, p4, by show rotF _ (m - (i - j)) m (m + j) = _; rw [rot_gt e m i j hij (by omega) p2, p5]⟩ (by show i - j + j < i + j; omega))
    · have hij : i < j := by simp at h; omega
      refine goN hB s7_ok rfl rfl (by simp only [conj, Fits_i64, and_true, true_and]; omega) ?_
      refine run_callC (swapR_hc N cap (m - i) (m + j - i) i e (by omega) (by omega) hN) named hB [0] rfl rfl rfl rfl (by simp [conj]) (by simp [conj, ren_rk, less_rfl]; omega) ?_
      rintro d' rfl
      refine ⟨Nat.le_refl _, _, _, _, rfl, rfl, rfl, ?_⟩
      refine run_heap (hp' := rowH N cap (swr e (m - i) (m + j - i) i)) (by simp only [renR_rk]) ?_
      refine goN hB s7_ok rfl rfl (by simp only [conj, Fits_i64, and_true, true_and]; omega) ?_
      refine run_back ?_
      refine run_to hpin [0] rfl rfl (by simp [conj, ren_rk, less_rfl]; omega) (ih (i, j - i, swr e (m - i) (m + j - i) i) ⟨p1, by show 0 < j - i; omega, p3, by show j - i ≤ b - m; omega, by show rotF _ (m - i) m (m + (j - i)) = _; rw [rot_lt e m i j hij (by omega) p1, p5]⟩ (by show i + (j - i) < i + j; omega))
  · have hij : i = j := by simp at h; omega
    subst hij
    refine goN hB s7_ok rfl rfl (by simp only [conj, Fits_i64, and_true, true_and]; omega) ?_
    refine run_callC (swapR_hc N cap (m - i) m i e (by omega) (by omega) hN) named hB [0] rfl rfl rfl rfl (by simp [conj]) (by simp [conj, ren_rk, less_rfl]; omega) ?_
    rintro d' rfl
    refine ⟨Nat.le_refl _, _, _, _, rfl, rfl, rfl, ?_⟩
    refine run_heap (hp' := rowH N cap (swr e (m - i) m i)) (by simp only [renR_rk]) ?_
    refine goN hB s7_ok rfl rfl (by simp [conj]) ?_
    exact run_endC hpin (swr e (m - i) m i) (by rw [rot_eq e m i (by omega), p5]) [0] rfl rfl (by simp [conj]) rfl (by simp [conj, ren_rk, less_rfl])
end Sx
