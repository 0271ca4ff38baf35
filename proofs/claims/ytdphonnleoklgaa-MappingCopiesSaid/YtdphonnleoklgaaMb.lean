/- Lists of assignments: what is assigned, and how an assignment changes it. No program in sight. Conditions: as each theorem says. -/
import Derived.KernelRfl
set_option linter.unusedSimpArgs false
set_option linter.unusedVariables false
namespace Sx
abbrev Ld := List (Int × Int)
def hasS (L : Ld) (s : Int) : Bool := L.any fun x => decide (x.1 = s)
def pgS (L : Ld) (s : Int) : Int := match L.find? (fun x => decide (x.1 = s)) with
  | some x => x.2
  | none => 0
def hasP (L : Ld) (p : Int) : Bool := L.any fun x => decide (x.2 = p)
def scP (L : Ld) (p : Int) : Int := match L.find? (fun x => decide (x.2 = p)) with
  | some x => x.1
  | none => 0
def without (L : Ld) (s : Int) : Ld := L.filter fun x => !decide (x.1 = s)
def ins (x : Int × Int) : Ld → Ld
  | [] => [x]
  | y :: r => if y.1 < x.1 then y :: ins x r else x :: y :: r
def setL (L : Ld) (x : Int × Int) : Ld := if 0 ≤ x.2 then ins x (without L x.1) else without L x.1
def cnt (L : Ld) (P b : Int) : Int := (L.countP fun x => decide (x.2 / P = b) : Nat)
structure MInv (S T : Int) (L : Ld) : Prop where
  lt : L.Pairwise fun x y => x.1 < y.1
  nd : L.Pairwise fun x y => x.2 ≠ y.2
  rg : ∀ x ∈ L, 0 ≤ x.1 ∧ x.1 < S ∧ 0 ≤ x.2 ∧ x.2 < T
theorem MInv.nil (S T : Int) : MInv S T [] := ⟨.nil, .nil, by simp⟩
theorem hasS_iff {L : Ld} {s : Int} : hasS L s = true ↔ ∃ x ∈ L, x.1 = s := by
  unfold hasS
  rw [List.any_eq_true]
  simp
theorem hasP_iff {L : Ld} {p : Int} : hasP L p = true ↔ ∃ x ∈ L, x.2 = p := by
  unfold hasP
  rw [List.any_eq_true]
  simp
theorem uniq {α : Type} {L : List α} {R : α → α → Prop} (h : L.Pairwise R) {f : α → Int} (hf : ∀ x y, R x y → f x ≠ f y) {x y : α} (hx : x ∈ L) (hy : y ∈ L) (e : f x = f y) : x = y := by
  induction h with
  | nil => cases hx
  | cons h1 h2 ih =>
    cases hx with
    | head => cases hy with
      | head => rfl
      | tail _ hy => exact absurd e (hf _ _ (h1 _ hy))
    | tail _ hx => cases hy with
      | head => exact absurd e.symm (hf _ _ (h1 _ hx))
      | tail _ hy => exact ih hx hy
theorem MInv.us {S T : Int} {L : Ld} (h : MInv S T L) {x y : Int × Int} (hx : x ∈ L) (hy : y ∈ L) (e : x.1 = y.1) : x = y := uniq h.lt (f := fun z : Int × Int => z.1) (fun a b g => by show a.1 ≠ b.1; omega) hx hy e
theorem MInv.up {S T : Int} {L : Ld} (h : MInv S T L) {x y : Int × Int} (hx : x ∈ L) (hy : y ∈ L) (e : x.2 = y.2) : x = y := uniq h.nd (f := fun z : Int × Int => z.2) (fun a b g => g) hx hy e
theorem MInv.pg {S T : Int} {L : Ld} (h : MInv S T L) {x : Int × Int} (hx : x ∈ L) : pgS L x.1 = x.2 := by
  unfold pgS
  cases hf : L.find? (fun y => decide (y.1 = x.1)) with
  | none =>
    have := List.find?_eq_none.1 hf x hx
    simp at this
  | some y =>
    have h1 : y.1 = x.1 := by simpa using List.find?_some hf
    rw [h.us (List.mem_of_find?_eq_some hf) hx h1]
theorem MInv.sc {S T : Int} {L : Ld} (h : MInv S T L) {x : Int × Int} (hx : x ∈ L) : scP L x.2 = x.1 := by
  unfold scP
  cases hf : L.find? (fun y => decide (y.2 = x.2)) with
  | none =>
    have := List.find?_eq_none.1 hf x hx
    simp at this
  | some y =>
    have h1 : y.2 = x.2 := by simpa using List.find?_some hf
    rw [h.up (List.mem_of_find?_eq_some hf) hx h1]
theorem pg_none {L : Ld} {s : Int} (h : hasS L s = false) : pgS L s = 0 := by
  unfold pgS
  have : L.find? (fun y => decide (y.1 = s)) = none := by
    rw [List.find?_eq_none]
    intro x hx q
    have := hasS_iff.2 ⟨x, hx, by simpa using q⟩
    rw [h] at this; cases this
  rw [this]
theorem mem_without {L : Ld} {s : Int} {y : Int × Int} : y ∈ without L s ↔ y ∈ L ∧ y.1 ≠ s := by
  unfold without
  rw [List.mem_filter]; simp
theorem mem_ins {x y : Int × Int} : ∀ {L : Ld}, y ∈ ins x L ↔ y = x ∨ y ∈ L
  | [] => by simp [ins]
  | z :: r => by
    simp only [ins]
    split
    · rw [List.mem_cons, mem_ins (L := r), List.mem_cons]
      constructor <;> (intro h; rcases h with h | h | h <;> simp [h])
    · simp
theorem mem_setL {L : Ld} {x y : Int × Int} : y ∈ setL L x ↔ (0 ≤ x.2 ∧ y = x) ∨ (y ∈ L ∧ y.1 ≠ x.1) := by
  unfold setL
  split
  · rename_i h
    rw [mem_ins, mem_without]; simp [h]
  · rename_i h
    rw [mem_without]; simp [h]
theorem lt_ins {x : Int × Int} : ∀ {L : Ld}, L.Pairwise (fun x y => x.1 < y.1) → (∀ y ∈ L, y.1 ≠ x.1) → (ins x L).Pairwise fun x y => x.1 < y.1
  | [], _, _ => by simp [ins]
  | z :: r, h, hn => by
    have hx := List.pairwise_cons.1 h
    have hz := hn z (List.mem_cons_self ..)
    simp only [ins]
    split
    · rename_i hlt
      refine List.pairwise_cons.2 ⟨fun y hy => ?_, lt_ins hx.2 fun y hy => hn y (List.mem_cons_of_mem _ hy)⟩
      rcases mem_ins.1 hy with rfl | hy
      · exact hlt
      · exact hx.1 y hy
    · rename_i hlt
      refine List.pairwise_cons.2 ⟨fun y hy => ?_, h⟩
      rcases List.mem_cons.1 hy with rfl | hy
      · omega
      · have := hx.1 y hy; omega
theorem nd_ins {x : Int × Int} : ∀ {L : Ld}, L.Pairwise (fun x y => x.2 ≠ y.2) → (∀ y ∈ L, y.2 ≠ x.2) → (ins x L).Pairwise fun x y => x.2 ≠ y.2
  | [], _, _ => by simp [ins]
  | z :: r, h, hn => by
    have hx := List.pairwise_cons.1 h
    have hz := hn z (List.mem_cons_self ..)
    simp only [ins]
    split
    · refine List.pairwise_cons.2 ⟨fun y hy => ?_, nd_ins hx.2 fun y hy => hn y (List.mem_cons_of_mem _ hy)⟩
      rcases mem_ins.1 hy with rfl | hy
      · exact hz
      · exact hx.1 y hy
    · refine List.pairwise_cons.2 ⟨fun y hy => ?_, h⟩
      rcases List.mem_cons.1 hy with rfl | hy
      · exact fun e => hz e.symm
      · exact fun e => hn y (List.mem_cons_of_mem _ hy) e.symm
/-- Whether the page is another sector's. -/
def busy (L : Ld) (x : Int × Int) : Bool := hasP L x.2 && !decide (scP L x.2 = x.1)
def inR (S T : Int) (x : Int × Int) : Prop := 0 ≤ x.1 ∧ x.1 < S ∧ -1 ≤ x.2 ∧ x.2 < T
theorem MInv.without {S T : Int} {L : Ld} (h : MInv S T L) (s : Int) : MInv S T (without L s) :=
  ⟨h.lt.sublist List.filter_sublist, h.nd.sublist List.filter_sublist, fun x hx => h.rg x (mem_without.1 hx).1⟩
theorem not_busy {S T : Int} {L : Ld} (h : MInv S T L) {x : Int × Int} (hb : busy L x = false) {y : Int × Int} (hy : y ∈ L) (e : y.2 = x.2) : y.1 = x.1 := by
  have h1 : hasP L x.2 = true := hasP_iff.2 ⟨y, hy, e⟩
  unfold busy at hb
  rw [h1] at hb
  have h2 : scP L x.2 = x.1 := by simpa using hb
  rw [← e, h.sc hy] at h2
  exact h2
theorem MInv.set {S T : Int} {L : Ld} (h : MInv S T L) {x : Int × Int} (hr : inR S T x) (hb : busy L x = false) : MInv S T (setL L x) := by
  unfold setL
  split
  · rename_i h0
    have hw := h.without x.1
    refine ⟨lt_ins hw.lt fun y hy => (mem_without.1 hy).2, nd_ins hw.nd fun y hy e => ?_, fun y hy => ?_⟩
    · obtain ⟨h1, h2⟩ := mem_without.1 hy
      exact h2 (not_busy h hb h1 e)
    · rcases mem_ins.1 hy with rfl | hy
      · exact ⟨hr.1, hr.2.1, h0, hr.2.2.2⟩
      · exact hw.rg y hy
  · exact h.without x.1
theorem hasS_set {L : Ld} {x : Int × Int} (a : Int) : hasS (setL L x) a = if a = x.1 then decide (0 ≤ x.2) else hasS L a := by
  rw [Bool.eq_iff_iff, hasS_iff]
  split
  · rename_i e
    subst e
    rw [decide_eq_true_iff]
    constructor
    · rintro ⟨y, hy, e⟩
      rcases mem_setL.1 hy with h | h
      · exact h.1
      · exact absurd e h.2
    · intro h
      exact ⟨x, mem_setL.2 (.inl ⟨h, rfl⟩), rfl⟩
  · rename_i e
    rw [hasS_iff]
    constructor
    · rintro ⟨y, hy, rfl⟩
      rcases mem_setL.1 hy with h | h
      · exact absurd (by rw [h.2]) e
      · exact ⟨y, h.1, rfl⟩
    · rintro ⟨y, hy, rfl⟩
      exact ⟨y, mem_setL.2 (.inr ⟨hy, e⟩), rfl⟩
theorem pgS_set {S T : Int} {L : Ld} (h : MInv S T L) {x : Int × Int} (hr : inR S T x) (hb : busy L x = false) (a : Int) (ha : hasS (setL L x) a = true) : pgS (setL L x) a = if a = x.1 then x.2 else pgS L a := by
  obtain ⟨y, hy, rfl⟩ := hasS_iff.1 ha
  rw [(h.set hr hb).pg hy]
  rcases mem_setL.1 hy with ⟨_, rfl⟩ | ⟨g1, g2⟩
  · rw [if_pos rfl]
  · rw [if_neg g2, h.pg g1]
theorem hasP_set {S T : Int} {L : Ld} (h : MInv S T L) {x : Int × Int} (p : Int) : hasP (setL L x) p = (decide (0 ≤ x.2 ∧ p = x.2) || (hasP L p && !decide (scP L p = x.1))) := by
  rw [Bool.eq_iff_iff, hasP_iff, Bool.or_eq_true, decide_eq_true_iff, Bool.and_eq_true, hasP_iff]
  constructor
  · rintro ⟨y, hy, rfl⟩
    rcases mem_setL.1 hy with ⟨g1, rfl⟩ | ⟨g1, g2⟩
    · exact .inl ⟨g1, rfl⟩
    · exact .inr ⟨⟨y, g1, rfl⟩, by rw [h.sc g1]; simpa using g2⟩
  · rintro (⟨g1, rfl⟩ | ⟨⟨y, g1, rfl⟩, g2⟩)
    · exact ⟨x, mem_setL.2 (.inl ⟨g1, rfl⟩), rfl⟩
    · rw [h.sc g1] at g2
      exact ⟨y, mem_setL.2 (.inr ⟨g1, by simpa using g2⟩), rfl⟩
theorem scP_set {S T : Int} {L : Ld} (h : MInv S T L) {x : Int × Int} (hr : inR S T x) (hb : busy L x = false) (p : Int) (hp : hasP (setL L x) p = true) : scP (setL L x) p = if 0 ≤ x.2 ∧ p = x.2 then x.1 else scP L p := by
  obtain ⟨y, hy, rfl⟩ := hasP_iff.1 hp
  rw [(h.set hr hb).sc hy]
  rcases mem_setL.1 hy with ⟨g0, rfl⟩ | ⟨g1, g2⟩
  · rw [if_pos ⟨g0, rfl⟩]
  · rw [if_neg, h.sc g1]
    rintro ⟨_, e⟩
    exact g2 (not_busy h hb g1 e)
theorem countP_ins {x : Int × Int} (p : Int × Int → Bool) : ∀ (L : Ld), (ins x L).countP p = L.countP p + if p x then 1 else 0
  | [] => by simp [ins, List.countP_cons]
  | z :: r => by
    simp only [ins]
    split
    · rw [List.countP_cons, countP_ins p r, List.countP_cons]; omega
    · rw [List.countP_cons]
theorem hasS_cons (y : Int × Int) (r : Ld) (s : Int) : hasS (y :: r) s = (decide (y.1 = s) || hasS r s) := rfl
theorem without_self {L : Ld} {s : Int} (h : hasS L s = false) : without L s = L := by
  unfold without
  rw [List.filter_eq_self]
  intro x hx
  have : x.1 ≠ s := fun e => by
    have := hasS_iff.2 ⟨x, hx, e⟩
    rw [h] at this; cases this
  simpa using this
theorem tail_no {y : Int × Int} {r : Ld} (h : (y :: r).Pairwise fun x y => x.1 < y.1) : hasS r y.1 = false := by
  cases hb : hasS r y.1 with
  | false => rfl
  | true =>
    obtain ⟨z, hz, e⟩ := hasS_iff.1 hb
    have := (List.pairwise_cons.1 h).1 z hz
    omega
theorem countP_without (p : Int × Int → Bool) (s : Int) : ∀ {L : Ld}, L.Pairwise (fun x y => x.1 < y.1) → L.countP p = (without L s).countP p + if hasS L s && p (s, pgS L s) then 1 else 0
  | [], _ => by simp [without, hasS]
  | y :: r, h => by
    have ih := countP_without p s (List.pairwise_cons.1 h).2
    by_cases e : y.1 = s
    · subst e
      have hn := tail_no h
      have h1 : without (y :: r) y.1 = r := by
        have : without (y :: r) y.1 = without r y.1 := by unfold without; rw [List.filter_cons_of_neg (by simp)]
        rw [this, without_self hn]
      have h2 : pgS (y :: r) y.1 = y.2 := by unfold pgS; simp
      rw [h1, h2, List.countP_cons, hasS_cons]
      simp
    · have h1 : without (y :: r) s = y :: without r s := by unfold without; rw [List.filter_cons_of_pos (by simpa using e)]
      have h2 : pgS (y :: r) s = pgS r s := by unfold pgS; rw [List.find?_cons_of_neg (by simpa using e)]
      have h3 : hasS (y :: r) s = hasS r s := by rw [hasS_cons]; simp [e]
      rw [h1, h2, h3, List.countP_cons, List.countP_cons, ih]
      omega
theorem cntS_set {S T : Int} {L : Ld} (h : MInv S T L) (x : Int × Int) (P b : Int) :
    cnt (setL L x) P b = cnt L P b - (if hasS L x.1 = true ∧ pgS L x.1 / P = b then 1 else 0) + if 0 ≤ x.2 ∧ x.2 / P = b then 1 else 0 := by
  have h1 := countP_without (fun x => decide (x.2 / P = b)) x.1 h.lt
  unfold cnt
  have h2 : (if (hasS L x.1 && decide (pgS L x.1 / P = b)) = true then 1 else 0 : Nat) = if hasS L x.1 = true ∧ pgS L x.1 / P = b then 1 else 0 := by
    simp only [Bool.and_eq_true, decide_eq_true_eq]
  rw [h2] at h1
  have h3 : ((setL L x).countP fun x => decide (x.2 / P = b)) = (without L x.1).countP (fun x => decide (x.2 / P = b)) + if 0 ≤ x.2 ∧ x.2 / P = b then 1 else 0 := by
    unfold setL
    by_cases h0 : 0 ≤ x.2
    · rw [if_pos h0, countP_ins]
      congr 1
      by_cases g : x.2 / P = b
      · rw [if_pos (by simpa using g), if_pos ⟨h0, g⟩]
      · rw [if_neg (by simpa using g), if_neg (fun q => g q.2)]
    · rw [if_neg h0, if_neg (fun q => h0 q.1)]; rfl
  rw [h3]
  clear h2 h3
  by_cases hA : 0 ≤ x.2 ∧ x.2 / P = b
  · rw [if_pos hA]
    by_cases hC : hasS L x.1 = true ∧ pgS L x.1 / P = b
    · rw [if_pos hC] at h1 ⊢; omega
    · rw [if_neg hC] at h1 ⊢; omega
  · rw [if_neg hA]
    by_cases hC : hasS L x.1 = true ∧ pgS L x.1 / P = b
    · rw [if_pos hC] at h1 ⊢; omega
    · rw [if_neg hC] at h1 ⊢; omega
theorem without_ins {x : Int × Int} : ∀ (L : Ld), without (ins x L) x.1 = without L x.1
  | [] => by simp [ins, without]
  | z :: r => by
    simp only [ins]
    split
    · rename_i h
      have ih := without_ins (x := x) r
      unfold without at ih ⊢
      rw [List.filter_cons, List.filter_cons, ih]
    · unfold without
      rw [List.filter_cons_of_neg (by simp)]
theorem without_without (L : Ld) (s : Int) : without (without L s) s = without L s := by
  apply without_self
  cases hb : hasS (without L s) s with
  | false => rfl
  | true =>
    obtain ⟨z, hz, e⟩ := hasS_iff.1 hb
    exact absurd e (mem_without.1 hz).2
theorem ins_without (s : Int) : ∀ {L : Ld}, L.Pairwise (fun x y => x.1 < y.1) → hasS L s = true → ins (s, pgS L s) (without L s) = L
  | [], _, h => by cases h
  | y :: r, h, hs => by
    have hx := List.pairwise_cons.1 h
    by_cases e : y.1 = s
    · subst e
      have hn := tail_no h
      have h1 : without (y :: r) y.1 = r := by
        have : without (y :: r) y.1 = without r y.1 := by unfold without; rw [List.filter_cons_of_neg (by simp)]
        rw [this, without_self hn]
      have h2 : pgS (y :: r) y.1 = y.2 := by unfold pgS; simp
      rw [h1, h2]
      cases r with
      | nil => rfl
      | cons z t =>
        have := hx.1 z (List.mem_cons_self ..)
        simp only [ins]
        rw [if_neg (by omega)]
    · have h3 : hasS r s = true := by rw [hasS_cons] at hs; simpa [e] using hs
      have ih := ins_without s hx.2 h3
      have h1 : without (y :: r) s = y :: without r s := by unfold without; rw [List.filter_cons_of_pos (by simpa using e)]
      have h2 : pgS (y :: r) s = pgS r s := by unfold pgS; rw [List.find?_cons_of_neg (by simpa using e)]
      rw [h1, h2]
      obtain ⟨z, hz, e2⟩ := hasS_iff.1 h3
      have := hx.1 z hz
      simp only [ins]
      rw [if_pos (by omega), ih]
/-- An assignment undone. -/
def wasX (L : Ld) (s : Int) : Int × Int := (s, if hasS L s = true then pgS L s else -1)
theorem undo1 (L : Ld) (x : Int × Int) : setL (setL L x) (x.1, -1) = without L x.1 := by
  have : setL (setL L x) (x.1, -1) = without (setL L x) x.1 := if_neg (by show ¬ (0 : Int) ≤ -1; decide)
  rw [this]
  unfold setL
  split
  · rw [without_ins, without_without]
  · exact without_without _ _
theorem undo2 {S T : Int} {L : Ld} (h : MInv S T L) (s : Int) : setL (without L s) (wasX L s) = L := by
  unfold wasX setL
  cases hs : hasS L s with
  | true =>
    obtain ⟨y, hy, rfl⟩ := hasS_iff.1 hs
    have h0 : 0 ≤ pgS L y.1 := by rw [h.pg hy]; exact (h.rg y hy).2.2.1
    simp only [if_true]
    rw [if_pos h0, without_without]
    exact ins_without _ h.lt hs
  | false =>
    simp only [Bool.false_eq_true, if_false]
    rw [if_neg (by decide), without_without, without_self hs]
theorem inR_was {S T : Int} {L : Ld} (h : MInv S T L) {s : Int} (h0 : 0 ≤ s) (h1 : s < S) (hT : 0 ≤ T) : inR S T (wasX L s) := by
  unfold wasX inR
  refine ⟨h0, h1, ?_⟩
  cases hs : hasS L s with
  | true =>
    obtain ⟨y, hy, rfl⟩ := hasS_iff.1 hs
    have := h.rg y hy
    simp only [if_true]
    rw [h.pg hy]; omega
  | false =>
    simp only [Bool.false_eq_true, if_false]; omega
theorem busy_was {S T : Int} {L : Ld} (h : MInv S T L) (s : Int) : busy (without L s) (wasX L s) = false := by
  cases hb : busy (without L s) (wasX L s) with
  | false => rfl
  | true =>
    unfold busy at hb
    rw [Bool.and_eq_true] at hb
    obtain ⟨y, hy, e⟩ := hasP_iff.1 hb.1
    obtain ⟨g1, g2⟩ := mem_without.1 hy
    unfold wasX at e
    simp only at e
    cases hs : hasS L s with
    | true =>
      obtain ⟨z, hz, rfl⟩ := hasS_iff.1 hs
      rw [hs] at e
      simp only [if_true] at e
      rw [h.pg hz] at e
      exact absurd (congrArg Prod.fst (h.up g1 hz e)) g2
    | false =>
      rw [hs] at e
      simp only [Bool.false_eq_true, if_false] at e
      have := (h.rg y g1).2.2.1
      omega
theorem busy_neg {S T : Int} {L : Ld} (h : MInv S T L) (s : Int) : busy L (s, -1) = false := by
  unfold busy
  have : hasP L (-1) = false := by
    cases hb : hasP L (-1) with
    | false => rfl
    | true =>
      obtain ⟨y, hy, e⟩ := hasP_iff.1 hb
      have := (h.rg y hy).2.2.1
      omega
  rw [this]; rfl
end Sx
