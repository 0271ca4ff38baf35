/- Rows of numbers and the insertion sort of one. Conditions: as each theorem says. -/
import Derived.Test.YtaeelabbppjobaaFt
set_option linter.unusedSimpArgs false
set_option linter.unusedVariables false
namespace Sx
open Go Go.Proofs
set_option maxRecDepth 100000
/-- A row of numbers. -/
def nr (k : IntKind) (d : Nat → Int) : Nat → Nat → SV := fun i j =>
  match j with
  | 0 => .int k (d i)
  | _ => .und
theorem ren_nr (nx : Nat) (sg : List Nat) (k : IntKind) (d : Nat → Int) (i j : Nat) : ren nx sg (nr k d i j) = nr k d i j := by
  unfold nr; split <;> simp only [ren, renF, id]
theorem renR_nr (nx : Nat) (sg : List Nat) (k : IntKind) (d : Nat → Int) : renR nx sg (nr k d) = nr k d := by funext i j; exact ren_nr nx sg k d i j
theorem updF_nr (k : IntKind) (d : Nat → Int) (e : Nat) (x : Int) : updF (nr k d) e 0 (SV.int k x).cells = nr k (fun j => if j = e then x else d j) := by
  funext i j
  unfold updF nr
  simp only [SV.cells, Nat.zero_le, true_and, List.length_cons, List.length_nil, Nat.zero_add, Nat.sub_zero]
  by_cases h : i = e
  · simp only [h, if_true, true_and]
    match j with
    | 0 => rfl
    | j + 1 => rw [if_neg (by omega)]; rfl
  · simp only [h, if_false, false_and]
theorem app_nr (k : IntKind) (x : Int) (e : Nat → Int) (m i : Nat) (hi : i < m + 1) :
    nr k (fun j => if j = m then x else e j) i 0 = appF (nr k e) m (fun i j => [SV.int k x][i + j]?.getD .und) i 0 := by
  unfold appF
  by_cases h : i < m
  · have hb : Nat.blt i m = true := by simpa [Nat.blt_eq] using h
    rw [hb, cond_true]
    unfold nr
    simp only [show i ≠ m by omega, if_false]
  · have : i = m := by omega
    subst this
    have hb : Nat.blt i i = false := by
      cases hq : Nat.blt i i with
      | false => rfl
      | true => rw [Nat.blt_eq] at hq; omega
    rw [hb, cond_false]
    simp [nr]
/-- Two places change. -/
def swI (d : Nat → Int) (j i : Nat) : Nat → Int := fun m => if m = i then d j else if m = j then d i else d m
/-- The same numbers, none twice if none was. -/
structure SameI (n : Nat) (f g : Nat → Int) : Prop where
  mem : ∀ a, (∃ i, i < n ∧ g i = a) ↔ ∃ i, i < n ∧ f i = a
  inj : (∀ i j, i < n → j < n → f i = f j → i = j) → ∀ i j, i < n → j < n → g i = g j → i = j
theorem SameI.refl (n : Nat) (f : Nat → Int) : SameI n f f := ⟨fun _ => Iff.rfl, fun h => h⟩
theorem SameI.swap {n : Nat} {f g : Nat → Int} (h : SameI n f g) {i j : Nat} (hi : i < n) (hj : j < n) : SameI n f (swI g j i) := by
  refine ⟨fun a => ?_, fun hf p q hp hq e => ?_⟩
  · rw [← h.mem a]
    constructor
    · rintro ⟨m, hm, e⟩
      unfold swI at e
      split at e
      · exact ⟨j, hj, e⟩
      · split at e
        · exact ⟨i, hi, e⟩
        · exact ⟨m, hm, e⟩
    · rintro ⟨m, hm, e⟩
      by_cases h1 : m = i
      · by_cases h2 : j = i
        · exact ⟨m, hm, by unfold swI; rw [if_pos h1, h2, ← h1]; exact e⟩
        · exact ⟨j, hj, by unfold swI; rw [if_neg h2, if_pos rfl, ← h1]; exact e⟩
      · by_cases h2 : m = j
        · exact ⟨i, hi, by unfold swI; rw [if_pos rfl, ← h2]; exact e⟩
        · exact ⟨m, hm, by unfold swI; rw [if_neg h1, if_neg h2]; exact e⟩
  · have hg := h.inj hf
    unfold swI at e
    split at e <;> rename_i h1
    · split at e <;> rename_i h2
      · omega
      · split at e <;> rename_i h3
        · have := hg _ _ hj hi e; omega
        · have := hg _ _ hj hq e; omega
    · split at e <;> rename_i h1'
      · split at e <;> rename_i h2
        · have := hg _ _ hi hj e; omega
        · split at e <;> rename_i h3
          · omega
          · have := hg _ _ hi hq e; omega
      · split at e <;> rename_i h2
        · have := hg _ _ hp hj e; omega
        · split at e <;> rename_i h3
          · have := hg _ _ hp hi e; omega
          · exact hg _ _ hp hq e
theorem swI_upd {d : Nat → Int} {i j : Nat} (h : i ≠ j) : (fun m => if m = i then d j else if m = j then d i else d m) = swI d j i := rfl
/-- The first i are in order. -/
def UpTo (i : Nat) (d : Nat → Int) : Prop := ∀ p q, p < q → q < i → d p ≤ d q
/-- All up to i but the one at j, which is no greater than those behind it. -/
def But (i j : Nat) (d : Nat → Int) : Prop := j ≤ i ∧ ∀ p q, p < q → q ≤ i → q ≠ j → d p ≤ d q
theorem But.start {i : Nat} {d : Nat → Int} (h : UpTo i d) : But i i d := ⟨Nat.le_refl _, fun p q h1 h2 h3 => h p q h1 (by omega)⟩
theorem But.down {i j : Nat} {d : Nat → Int} (h : But i j d) (hj : 0 < j) (hlt : d j < d (j - 1)) : But i (j - 1) (swI d j (j - 1)) := by
  obtain ⟨h1, h2⟩ := h
  refine ⟨by omega, fun p q k1 k2 k3 => ?_⟩
  unfold swI
  rw [if_neg k3]
  by_cases e1 : q = j
  · rw [if_pos e1]
    by_cases e2 : p = j - 1
    · rw [if_pos e2]; omega
    · rw [if_neg e2, if_neg (by omega)]
      have := h2 p (j - 1) (by omega) (by omega) (by omega)
      exact this
  · rw [if_neg e1]
    by_cases e2 : p = j - 1
    · rw [if_pos e2]; exact h2 j q (by omega) k2 e1
    · rw [if_neg e2]
      by_cases e3 : p = j
      · rw [if_pos e3]; exact h2 (j - 1) q (by omega) k2 e1
      · rw [if_neg e3]; exact h2 p q k1 k2 e1
theorem But.done {i j : Nat} {d : Nat → Int} (h : But i j d) (hn : ¬ (0 < j ∧ d j < d (j - 1))) : UpTo (i + 1) d := by
  obtain ⟨h1, h2⟩ := h
  intro p q k1 k2
  by_cases e : q = j
  · subst e
    have h3 : d (q - 1) ≤ d q := by omega
    by_cases e2 : p = q - 1
    · subst e2; exact h3
    · have := h2 p (q - 1) (by omega) (by omega) (by omega); omega
  · exact h2 p q k1 (by omega) e
def FNaN : List SV → Option (List Prop × SV)
  | [.int .u8 _] => some ([], .ff)
  | _ => none
theorem FNaN_ok : PureOk Try.prog 80 FNaN := by
  intro xs cs r h hc
  unfold FNaN at h
  split at h <;> first | exact (none_ne h).elim | skip
  simp only [Option.some.injEq, Prod.mk.injEq] at h; obtain ⟨rfl, rfl⟩ := h
  refine ⟨rfl, fun vs w h => (pure_of_run (r := .sb false) Try.func80 rfl (fun w => ?_) vs w h).mono fun e w' ⟨v, h1, h2, h3⟩ => ⟨v, h1, h2, h3⟩⟩
  refine ex0 rfl rfl (by simp [conj]) ?_
  exact fin rfl (by simp [conj]) rfl (by simp)
def FLess : List SV → Option (List Prop × SV)
  | [.int .u8 x, .int .u8 y] => some ([], .sb (decide (x < y)))
  | _ => none
theorem FLess_ok : PureOk Try.prog 70 FLess := by
  intro xs cs r h hc
  unfold FLess at h
  split at h <;> first | exact (none_ne h).elim | skip
  simp only [Option.some.injEq, Prod.mk.injEq] at h; obtain ⟨rfl, rfl⟩ := h
  refine ⟨rfl, pure_of_run Try.func70 rfl (fun w => ?_)⟩
  refine goL (Base.all_ok w) (s := [(80, FNaN)]) (sumOk_cons FNaN_ok (sumOk_nil _)) rfl rfl (by simp [conj]) ?_
  exact fin rfl (by simp [conj]) rfl (by simp)
def s4 : SumL := (70, FLess) :: s3
theorem s4_ok : SumOk Try.prog (sumOf s4) := sumOk_cons FLess_ok s3_ok
abbrev nrH (n cap : Nat) (d : Nat → Int) : Hp := [(0, .row 0 n cap 1 (nr .u8 d) 5)]
theorem ins64_hc (n cap : Nat) (d : Nat → Int) (hn : n < 1000000) :
    HC Try.prog 64 [.sq 0 0 0 1 n .no, i64 0, i64 n] (nrH n cap d) [] 1 (fun d' => SameI n d d' ∧ UpTo n d') (fun d' => ⟨.tup [], nrH n cap d', 1⟩) := by
  refine hc_of_run Try.func64 rfl (fun B hB hpin => ?_)
  refine goQ hB s4_ok rfl rfl (by simp [conj, Fits_i64]) ?_
  refine run_loop ?_
  refine run_inv (ι := Nat × (Nat → Int)) hpin (fun x => 1 ≤ x.1 ∧ (x.1 ≤ n ∨ x.1 = 1) ∧ SameI n d x.2 ∧ UpTo x.1 x.2) (fun x => n - x.1)
    (fun x => [(0, .sq 0 0 0 1 n .no), (1, i64 0), (2, i64 n), (6, i64 x.1)]) (fun _ => []) (fun x => nrH n cap x.2) 1 (1, d)
    ⟨by simp, .inr rfl, SameI.refl _ _, fun p q h1 h2 => by simp at h2; omega⟩ [0] rfl rfl (by simp [conj, ren_nr, less_rfl]) ?_
  rintro ⟨i, e⟩ ⟨h1, h2, h3, h4⟩ ih
  refine goQ hB s4_ok rfl rfl (by simp [conj]) ?_
  refine run_cond rfl (fun h => ?_) (fun h => ?_)
  · have hin : i < n := by simpa using h
    refine goQ hB s4_ok rfl rfl (by simp [conj]) ?_
    refine run_loop ?_
    refine run_inv (ι := Nat × (Nat → Int)) hpin (fun x => SameI n d x.2 ∧ But i x.1 x.2) (fun x => x.1)
      (fun x => [(0, .sq 0 0 0 1 n .no), (1, i64 0), (2, i64 n), (6, i64 i), (7, i64 x.1)]) (fun _ => []) (fun x => nrH n cap x.2) 1 (i, e)
      ⟨h3, But.start h4⟩ [0] rfl rfl (by simp [conj, ren_nr, less_rfl]) ?_
    rintro ⟨j, e'⟩ ⟨g1, g2⟩ ih2
    have hji : j ≤ i := g2.1
    have ej2 : 0 + (j : Int).toNat = j := by omega
    refine goQ hB s4_ok rfl rfl (by
      by_cases hj : 0 < j
      · simp [conj, Fits_i64, hj]; omega
      · simp [conj, hj]) ?_
    refine run_cond rfl (fun hc => ?_) (fun hc => ?_)
    · have hj : 0 < j := by simp at hc; exact hc.1
      have ej : 0 + ((j : Int) - 1).toNat = j - 1 := by omega
      have hc : e' j < e' (j - 1) := by
        have := hc
        simp only [ej, ej2] at this
        simp at this; exact this.2
      refine goQ hB s4_ok rfl rfl (by simp only [conj, Fits_i64, and_true, true_and]; omega) ?_
      refine run_back ?_
      refine run_to hpin [0] rfl rfl (by
        simp only [ej, ej2, updF_nr, swI_upd (show j - 1 ≠ j by omega), ren_nr]
        simp [conj, less_rfl]; omega) (ih2 (j - 1, swI e' j (j - 1)) ⟨g1.swap (by omega) (by omega), g2.down hj hc⟩ (by show j - 1 < j; omega))
    · have hc : ¬ (0 < j ∧ e' j < e' (j - 1)) := by
        rintro ⟨q1, q2⟩
        have ej : 0 + ((j : Int) - 1).toNat = j - 1 := by omega
        simp only [ej, ej2] at hc
        simp [q1] at hc; omega
      refine goQ hB s4_ok rfl rfl (by simp [conj, Fits_i64]; omega) ?_
      refine run_back ?_
      refine run_to hpin [0] rfl rfl (by simp [conj, ren_nr, less_rfl]) (ih (i + 1, e') ⟨by show 1 ≤ i + 1; omega, .inl (by show i + 1 ≤ n; omega), g1, g2.done hc⟩ (by show n - (i + 1) < n - i; omega))
  · refine goQ hB s4_ok rfl rfl (by simp [conj]) ?_
    have hib : n ≤ i := by simpa using h
    refine run_endC hpin e ⟨h3, fun p q k1 k2 => h4 p q k1 (by show q < i; omega)⟩ [0] rfl rfl (by simp [conj]) rfl (by simp [conj, ren_nr, less_rfl])
end Sx
