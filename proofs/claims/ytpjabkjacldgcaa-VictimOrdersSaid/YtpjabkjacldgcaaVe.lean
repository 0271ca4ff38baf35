/- Ranked candidates: rows of them, their order, and the insertion sort of a part of a row. Conditions: as each theorem says. -/
import Derived.Test.YtpjabkjacldgcaaVp
import Derived.Test.YtpjabkjacldgcaaEng27
namespace Sx
open Go Go.Proofs
abbrev Rk.sv (x : Rk) : SV := .agg [.int .i64 x.c.b, .int .i64 x.c.v, .int .i64 x.c.p, .int .i64 x.c.a, .int .i64 x.at_]
def F27 : List SV → Option (List Prop × SV)
  | [.agg [.int .i64 b, .int .i64 v, .int .i64 p, .int .i64 a, .int .i64 _], .agg [.int .i64 b', .int .i64 v', .int .i64 p', .int .i64 a', .int .i64 _]] =>
    some ([rightB v p a = true, rightB v' p' a' = true], .int .i64 (cmpC ⟨b, v, p, a⟩ ⟨b', v', p', a'⟩))
  | _ => none
theorem F27_ok : PureOk Try.prog 27 F27 := by
  intro xs cs r h hc
  unfold F27 at h
  split at h <;> first | exact (none_ne h).elim | skip
  simp only [Option.some.injEq, Prod.mk.injEq] at h; obtain ⟨rfl, rfl⟩ := h
  have h1 := hc.head
  have h2 := hc _ (List.mem_cons_of_mem _ (List.mem_cons_self ..))
  refine ⟨rfl, pure_of_run Try.func27 rfl (fun w => ?_)⟩
  refine ex s6_ok 300 rfl (by simp only [conj, and_true, true_and]; exact ⟨h2, h1⟩) ?_
  exact fin rfl (by simp [conj]) rfl rfl
def F29 : List SV → Option (List Prop × SV)
  | [.agg [.int .i64 _, .int .i64 v, .int .i64 p, .int .i64 _, .int .i64 _]] => some ([], .sb (decide (v < p)))
  | _ => none
theorem F29_ok : PureOk Try.prog 29 F29 := by
  intro xs cs r h hc
  unfold F29 at h
  split at h <;> first | exact (none_ne h).elim | skip
  simp only [Option.some.injEq, Prod.mk.injEq] at h; obtain ⟨rfl, rfl⟩ := h
  refine ⟨rfl, pure_of_run Try.func29 rfl (fun w => ?_)⟩
  refine ex s6_ok 300 rfl (by simp [conj]) ?_
  exact fin rfl (by simp [conj]) rfl rfl
def s7 : SumL := (29, F29) :: (27, F27) :: s6
theorem s7_ok : SumOk Try.prog (sumOf s7) := sumOk_cons F29_ok (sumOk_cons F27_ok s6_ok)
/-- A row of ranked candidates. -/
def rk (d : Nat → Rk) : Nat → Nat → SV := fun i k =>
  match k with
  | 0 => .int .i64 (d i).c.b
  | 1 => .int .i64 (d i).c.v
  | 2 => .int .i64 (d i).c.p
  | 3 => .int .i64 (d i).c.a
  | 4 => .int .i64 (d i).at_
  | _ => .und
theorem ren_rk (nx : Nat) (sg : List Nat) (d : Nat → Rk) (i k : Nat) : ren nx sg (rk d i k) = rk d i k := by
  unfold rk; split <;> simp only [ren, renF, id]
theorem renR_rk (nx : Nat) (sg : List Nat) (d : Nat → Rk) : renR nx sg (rk d) = rk d := by funext i k; exact ren_rk nx sg d i k
theorem updF_rk (d : Nat → Rk) (e : Nat) (x : Rk) : updF (rk d) e 0 (SV.agg [.int .i64 x.c.b, .int .i64 x.c.v, .int .i64 x.c.p, .int .i64 x.c.a, .int .i64 x.at_]).cells = rk (fun j => if j = e then x else d j) := by
  funext i k
  unfold updF rk
  simp only [SV.cells, Nat.zero_le, true_and, List.length_cons, List.length_nil, Nat.zero_add, Nat.sub_zero]
  by_cases h : i = e
  · simp only [h, if_true, true_and]
    match k with
    | 0 => rfl
    | 1 => rfl
    | 2 => rfl
    | 3 => rfl
    | 4 => rfl
    | k + 5 => rw [if_neg (by omega)]; rfl
  · simp only [h, if_false, false_and]
theorem swp_upd {d : Nat → Rk} {i j : Nat} (h : i ≠ j) : (fun m => if m = i then d j else if m = j then d i else d m) = swp d j i := by
  funext m
  unfold swp
  by_cases h1 : m = i
  · subst h1; simp [h]
  · by_cases h2 : m = j
    · subst h2; simp [h1]
    · simp [h1, h2]
theorem exB {B : Base} (hB : B.ok) {ro : Hp} {f : FuncId} {R : Ending → World → Prop} {s : SumL} (hs : SumOk Try.prog (sumOf s)) (m : Nat) {cs : List Prop} {c c' : Cfg} (h : exec Try.prog (mode s) ro m [] c = (cs, c')) (hc : conj cs)
    (hr : Run Try.prog ro B f R c') : Run Try.prog ro B f R c := run_exec named hB hs m h hc hr
abbrev rowH (n cap : Nat) (d : Nat → Rk) : Hp := [(0, .row 0 n cap 5 (rk d) 53)]
abbrev by27 : SV := .clo (.func 27) [] []
theorem ins_hc (n cap a b : Nat) (d : Nat → Rk) (hab : a ≤ b) (hbn : b ≤ n) (hn : n < 1000000) (hg : ∀ i, i < n → good (d i)) (hat : ∀ i j, a ≤ i → i < j → j < b → (d i).at_ < (d j).at_) :
    HC Try.prog 35 [.sq 0 0 0 5 n .no, .int .i64 a, .int .i64 b, by27] (rowH n cap d) [] 1 (fun d' => PmS a b d d' ∧ SortedOn a b d') (fun d' => ⟨.tup [], rowH n cap d', 1⟩) := by
  refine hc_of_run Try.func35 rfl (fun B hB hpin => ?_)
  refine exB hB s7_ok 300 rfl (by simp only [conj, Fits_i64, and_true, true_and]; omega) ?_
  refine run_loop ?_
  refine run_inv (ι := Nat × (Nat → Rk)) hpin (fun x => a < x.1 ∧ (x.1 ≤ b ∨ x.1 = a + 1) ∧ (x.1 = a + 1 → x.2 = d) ∧ PmS a x.1 d x.2 ∧ SortedOn a x.1 x.2) (fun x => b - x.1)
    (fun x => [(0, .sq 0 0 0 5 n .no), (1, .int .i64 a), (2, .int .i64 b), (3, by27), (8, .int .i64 (x.1 : Int))]) (fun _ => []) (fun x => rowH n cap x.2) 1 (a + 1, d)
    ⟨by simp, .inr rfl, fun _ => rfl, PmS.refl _ _ _, fun i j h1 h2 h3 => by simp at h3; omega⟩ [0] rfl rfl (by simp [conj, ren_rk, less_rfl]) ?_
  rintro ⟨i, e⟩ ⟨h1, h2, h3, h4, h5⟩ ih
  refine exB hB s7_ok 300 rfl (by simp [conj]) ?_
  refine run_cond rfl (fun h => ?_) (fun h => ?_)
  · refine exB hB s7_ok 300 rfl (by simp [conj]) ?_
    refine run_loop ?_
    refine run_inv (ι := Nat × (Nat → Rk)) hpin (fun x => Ins a i d x.1 x.2) (fun x => x.1)
      (fun x => [(0, .sq 0 0 0 5 n .no), (1, .int .i64 a), (2, .int .i64 b), (3, by27), (8, .int .i64 (i : Int)), (9, .int .i64 (x.1 : Int))]) (fun _ => []) (fun x => rowH n cap x.2) 1 (i, e)
      (Ins.start hat (by omega) (by simpa using h) h4 h5) [0] rfl rfl (by simp [conj, ren_rk, less_rfl]) ?_
    rintro ⟨j, e'⟩ hI ih2
    have hib : i < b := by simpa using h
    have hlo : a ≤ j := hI.lo
    have hhi : j ≤ i := hI.hi
    have ge : ∀ k, a ≤ k → k < i + 1 → good (e' k) := hI.pm.all (fun k q1 q2 => hg k (by omega))
    have ej2 : 0 + (j : Int).toNat = j := by omega
    refine exB hB s7_ok 300 rfl (by simp [conj]) ?_
    refine run_draw0 mixed (fun t => ?_)
    refine run_draw (M := mode s7) 17 named hB s7_ok rfl rfl rfl rfl rfl (by
      by_cases hj : a < j
      · have ej : 0 + ((j : Int) - 1).toNat = j - 1 := by omega
        have g1 : rightB (e' (j - 1)).c.v (e' (j - 1)).c.p (e' (j - 1)).c.a = true := (ge (j - 1) (by omega) (by omega)).1
        have g2 : rightB (e' j).c.v (e' j).c.p (e' j).c.a = true := (ge j hlo (by omega)).1
        simp only [ej, ej2, conj, Fits_i64, g1, g2]
        simp [hj]; omega
      · simp [conj, hj]) (fun t => ?_)
    refine run_drawE rfl ?_
    refine exB hB s7_ok 300 rfl (by simp [conj]) ?_
    refine run_cond rfl (fun hc => ?_) (fun hc => ?_)
    · have hj : a < j := by simp at hc; exact hc.1
      have ej : 0 + ((j : Int) - 1).toNat = j - 1 := by omega
      have hc : cmpC (e' j).c (e' (j - 1)).c < 0 := by
        have := hc
        simp only [ej, ej2] at this
        simp at this; exact this.2
      refine exB hB s7_ok 300 rfl (by simp [conj]) ?_
      refine run_draw0 mixed (fun t => ?_)
      refine run_draw (M := mode s7) 18 named hB s7_ok rfl rfl rfl rfl rfl (by simp only [conj, Fits_i64, and_true, true_and]; omega) (fun t => ?_)
      refine run_drawE rfl ?_
      refine exB hB s7_ok 300 rfl (by simp [conj, Fits_i64]; omega) ?_
      refine run_back ?_
      refine run_to hpin [0] rfl rfl (by
        simp only [ej, ej2, updF_rk, swp_upd (show j - 1 ≠ j by omega), ren_rk]
        simp [conj, less_rfl]; omega) (ih2 (j - 1, swp e' j (j - 1)) (hI.down hj hc) (by show j - 1 < j; omega))
    · have hc : ¬ (a < j ∧ cmpC (e' j).c (e' (j - 1)).c < 0) := by
        rintro ⟨q1, q2⟩
        have ej : 0 + ((j : Int) - 1).toNat = j - 1 := by omega
        simp only [ej, ej2] at hc
        have hc' : (decide ((a : Int) < (j : Int)) && decide (cmpC (e' j).c (e' (j - 1)).c < 0)) = false := hc
        simp [q1] at hc'; omega
      refine exB hB s7_ok 300 rfl (by simp [conj, Fits_i64]; omega) ?_
      refine run_back ?_
      refine run_to hpin [0] rfl rfl (by simp [conj, ren_rk, less_rfl]) (ih (i + 1, e') ⟨by show a < i + 1; omega, .inl (by show i + 1 ≤ b; omega), fun q => absurd q (by show ¬ (i + 1 = a + 1); omega), hI.pm, hI.done (fun k q1 q2 => hg k (by omega)) hc⟩ (by show b - (i + 1) < b - i; omega))
  · refine exB hB s7_ok 300 rfl (by simp [conj]) ?_
    have hib : b ≤ i := by simpa using h
    refine run_endC hpin e ?_ [0] rfl rfl (by simp [conj]) rfl (by simp [conj, ren_rk, less_rfl])
    rcases h2 with q | q
    · have : i = b := by omega
      subst this; exact ⟨h4, h5⟩
    · have q : i = a + 1 := q
      have := h3 q
      simp only at this
      subst this
      exact ⟨PmS.refl _ _ _, fun p r q1 q2 q3 => by omega⟩
end Sx
