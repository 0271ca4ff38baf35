/- The stable sort of a row. Conditions: as each theorem says. -/
import Derived.Test.YtpjabkjacldgcaaVe
namespace Sx
open Go Go.Proofs
def modeN (s : SumL) : Mode := { st := true, unr := false, inl := fun _ => false, sum := sumOf s, keep := fun _ => none }
theorem exN {B : Base} (hB : B.ok) {ro : Hp} {f : FuncId} {R : Ending → World → Prop} {s : SumL} (hs : SumOk Try.prog (sumOf s)) (m : Nat) {cs : List Prop} {c c' : Cfg} (h : exec Try.prog (modeN s) ro m [] c = (cs, c')) (hc : conj cs)
    (hr : Run Try.prog ro B f R c') : Run Try.prog ro B f R c := run_exec named hB hs m h hc hr
abbrev maxN : Nat := 19
theorem stable_hc (n cap : Nat) (d : Nat → Rk) (hn : n ≤ maxN) (hg : ∀ i, i < n → good (d i)) (hat : ∀ i j, i < j → j < n → (d i).at_ < (d j).at_) :
    HC Try.prog 33 [.sl 0 0 0 5 n cap, .int .i64 n, by27] (rowH n cap d) [] 1 (fun d' => PmS 0 n d d' ∧ SortedOn 0 n d') (fun d' => ⟨.tup [], rowH n cap d', 1⟩) := by
  have hn : n ≤ 19 := hn
  refine hc_of_run Try.func33 rfl (fun B hB hpin => ?_)
  refine exN hB s7_ok 300 rfl (by simp [conj]) ?_
  refine run_loop ?_
  refine exN hB s7_ok 300 rfl (by simp [conj]) ?_
  refine run_cond rfl (fun h => ?_) (fun h => ?_)
  · simp at h; omega
  refine exN hB s7_ok 300 rfl (by simp [conj]) ?_
  refine run_callC (ins_hc n cap 0 n d (by omega) (by omega) (by omega) hg (fun i j h1 h2 h3 => hat i j h2 h3)) named hB [0] rfl rfl rfl rfl (by simp [conj]) (by simp [conj, ren_rk, less_rfl]) ?_
  rintro d' ⟨p1, p2⟩
  refine ⟨Nat.le_refl _, _, _, _, rfl, rfl, rfl, ?_⟩
  refine run_heap (hp' := rowH n cap d') (by simp only [renR_rk]) ?_
  refine exN hB s7_ok 300 rfl (by simp [conj]) ?_
  refine run_loop ?_
  refine exN hB s7_ok 300 rfl (by simp [conj]) ?_
  refine run_cond rfl (fun h => ?_) (fun h => ?_)
  · simp at h; omega
  refine exN hB s7_ok 300 rfl (by simp [conj]) ?_
  exact run_endC hpin d' ⟨p1, p2⟩ [0] rfl rfl (by simp [conj]) rfl (by simp [conj, ren_rk, less_rfl])
theorem sort_hc (n cap : Nat) (d : Nat → Rk) (hn : n ≤ maxN) (hg : ∀ i, i < n → good (d i)) (hat : ∀ i j, i < j → j < n → (d i).at_ < (d j).at_) :
    HC Try.prog 30 [.sl 0 0 0 5 n cap, by27] (rowH n cap d) [] 1 (fun d' => PmS 0 n d d' ∧ SortedOn 0 n d') (fun d' => ⟨.tup [], rowH n cap d', 1⟩) := by
  refine hc_of_run Try.func30 rfl (fun B hB hpin => ?_)
  refine exN hB s7_ok 300 rfl (by simp [conj]) ?_
  refine run_callC (stable_hc n cap d hn hg hat) named hB [0] rfl rfl rfl rfl (by simp [conj]) (by simp [conj, ren_rk, less_rfl]) ?_
  rintro d' ⟨p1, p2⟩
  refine ⟨Nat.le_refl _, _, _, _, rfl, rfl, rfl, ?_⟩
  refine run_heap (hp' := rowH n cap d') (by simp only [renR_rk]) ?_
  refine exN hB s7_ok 300 rfl (by simp [conj]) ?_
  exact run_endC hpin d' ⟨p1, p2⟩ [0] rfl rfl (by simp [conj]) rfl (by simp [conj, ren_rk, less_rfl])
end Sx
