/- Members in order: with one more, with one less. Plain laws, no condition. -/
import Derived.Test.YtlpbmlfejiaamaaNzi
set_option linter.unusedSimpArgs false
set_option linter.unusedVariables false
namespace Sx
open Go Go.Proofs
theorem sorted_ext : ∀ {l l' : List Int}, l.Pairwise (· < ·) → l'.Pairwise (· < ·) → (∀ a, a ∈ l ↔ a ∈ l') → l = l'
  | [], [], _, _, _ => rfl
  | [], b :: r, _, _, e => by have := (e b).2 List.mem_cons_self; simp at this
  | a :: r, [], _, _, e => by have := (e a).1 List.mem_cons_self; simp at this
  | a :: r, b :: s, h, h', e => by
    rw [List.pairwise_cons] at h h'
    have hab : a = b := by
      rcases List.mem_cons.1 ((e a).1 List.mem_cons_self) with q | q
      · exact q
      · rcases List.mem_cons.1 ((e b).2 List.mem_cons_self) with q' | q'
        · exact q'.symm
        · have := h.1 _ q'; have := h'.1 _ q; omega
    subst hab
    congr 1
    refine sorted_ext h.2 h'.2 fun c => ?_
    have hc := e c
    simp only [List.mem_cons] at hc
    constructor
    · intro q
      have := h.1 c q
      rcases hc.1 (.inr q) with q' | q'
      · omega
      · exact q'
    · intro q
      have := h'.1 c q
      rcases hc.2 (.inr q) with q' | q'
      · omega
      · exact q'
theorem sorted_mid {a : Int} {x y : List Int} (hx : x.Pairwise (· < ·)) (hy : y.Pairwise (· < ·)) (h1 : ∀ b ∈ x, b < a) (h2 : ∀ b ∈ y, a < b) : (x ++ a :: y).Pairwise (· < ·) := by
  rw [List.pairwise_append]
  refine ⟨hx, List.pairwise_cons.2 ⟨h2, hy⟩, fun b hb c hc => ?_⟩
  rcases List.mem_cons.1 hc with e | e
  · subst e; exact h1 b hb
  · have := h1 b hb; have := h2 c e; omega
theorem drop_gt {l : List Int} (h : l.Pairwise (· < ·)) {a : Int} (ha : a ∉ l) (k : Nat) (hk : k < l.length → ¬ lsD l k < a) : ∀ b ∈ l.drop k, a < b := by
  intro b hb
  rcases Nat.lt_or_ge k l.length with q | q
  · have e0 : lsD l k = l[k] := by simp [lsD, q]
    rw [List.drop_eq_getElem_cons q] at hb
    have hp := (h.sublist (List.drop_sublist k l))
    rw [List.drop_eq_getElem_cons q, List.pairwise_cons] at hp
    have h1 := hk q
    rw [e0] at h1
    have h2 : l[k] ≠ a := fun e => ha (e ▸ List.getElem_mem q)
    rcases List.mem_cons.1 hb with e | e
    · subst e; omega
    · have := hp.1 b e; omega
  · rw [List.drop_eq_nil_of_le q] at hb; cases hb
theorem take_lt {l : List Int} {a : Int} (k : Nat) (hk : ∀ i, i < k → i < l.length → lsD l i < a) : ∀ b ∈ l.take k, b < a := by
  intro b hb
  obtain ⟨i, hi, e⟩ := List.getElem_of_mem hb
  rw [List.length_take] at hi
  rw [List.getElem_take] at e
  have := hk i (by omega) (by omega)
  have e0 : lsD l i = l[i]'(by omega) := by simp [lsD, show i < l.length by omega]
  rw [e0, e] at this
  exact this
theorem sorted_ins {l : List Int} (h : l.Pairwise (· < ·)) {a : Int} (ha : a ∉ l) (k : Nat) (h1 : ∀ i, i < k → i < l.length → lsD l i < a) (h2 : k < l.length → ¬ lsD l k < a) : (l.take k ++ a :: l.drop k).Pairwise (· < ·) :=
  sorted_mid (h.sublist (List.take_sublist k l)) (h.sublist (List.drop_sublist k l)) (take_lt k h1) (drop_gt h ha k h2)
theorem mem_ins {l : List Int} {a : Int} (k : Nat) (b : Int) : b ∈ l.take k ++ a :: l.drop k ↔ b = a ∨ b ∈ l := by
  have := List.take_append_drop k l
  rw [List.mem_append, List.mem_cons]
  constructor
  · rintro (h | h | h)
    · exact .inr (List.mem_of_mem_take h)
    · exact .inl h
    · exact .inr (List.mem_of_mem_drop h)
  · rintro (h | h)
    · exact .inr (.inl h)
    · rw [← this, List.mem_append] at h
      rcases h with h | h
      · exact .inl h
      · exact .inr (.inr h)
/-- The keys with one more. -/
def lAdd (nm : Int) (l : List Int) : List Int := l.filter (fun a => decide (a < nm)) ++ nm :: l.filter (fun a => decide (nm < a))
def lDel (nm : Int) (l : List Int) : List Int := l.filter (fun a => decide (a ≠ nm))
theorem h_add (s : GS) (nm g a : Int) : (gAdd s nm g).h a = true ↔ a = nm ∨ s.h a = true := by
  simp [gAdd, ieq]
theorem h_del (s : GS) (nm a : Int) : (gDel s nm).h a = true ↔ s.h a = true ∧ a ≠ nm := by
  simp [gDel, ieq]
theorem keys_add {s : GS} {l : List Int} (hk : KeysOf s.h l) (nm g : Int) : KeysOf (gAdd s nm g).h (lAdd nm l) := by
  refine ⟨sorted_mid (hk.1.filter _) (hk.1.filter _) (fun b hb => ?_) (fun b hb => ?_), fun a => ?_⟩
  · simpa using (List.mem_filter.1 hb).2
  · simpa using (List.mem_filter.1 hb).2
  · rw [h_add, ← hk.2 a]
    unfold lAdd
    simp only [List.mem_append, List.mem_cons, List.mem_filter, decide_eq_true_eq]
    by_cases e : a = nm
    · subst e; simp
    · constructor
      · rintro (h | h | h)
        · exact .inr h.1
        · exact .inl h
        · exact .inr h.1
      · rintro (h | h)
        · exact absurd h e
        · rcases Int.lt_or_gt_of_ne e with q | q
          · exact .inl ⟨h, q⟩
          · exact .inr (.inr ⟨h, q⟩)
theorem len_lAdd (nm : Int) : ∀ l : List Int, (lAdd nm l).length ≤ l.length + 1
  | [] => by simp [lAdd]
  | a :: l => by
    have ih := len_lAdd nm l
    unfold lAdd at ih ⊢
    simp only [List.length_append, List.length_cons, List.filter_cons] at ih ⊢
    by_cases h : a < nm
    · have h' : ¬ nm < a := by omega
      simp [h, h']; omega
    · by_cases h' : nm < a
      · simp [h, h']; omega
      · simp [h, h']; omega
theorem keys_del {s : GS} {l : List Int} (hk : KeysOf s.h l) (nm : Int) : KeysOf (gDel s nm).h (lDel nm l) := by
  refine ⟨hk.1.filter _, fun a => ?_⟩
  rw [h_del, ← hk.2 a]
  unfold lDel
  simp
theorem len_lDel (nm : Int) (l : List Int) : (lDel nm l).length ≤ l.length := List.length_filter_le _ _
theorem grp_add (s : GS) (nm g a : Int) : grp (gAdd s nm g) a = if a = nm then g else grp s a := by
  by_cases e : a = nm <;> simp [grp, gAdd, ieq, e]
theorem grp_del (s : GS) (nm a : Int) : grp (gDel s nm) a = if a = nm then 0 else grp s a := by
  by_cases e : a = nm <;> simp [grp, gDel, ieq, e]
theorem mem_sorted {s : GS} {l : List Int} (hk : KeysOf s.h l) (g : Int) : (mem s g l).Pairwise (· < ·) := hk.1.filter _
theorem mem_of {s : GS} {l : List Int} (hk : KeysOf s.h l) (g a : Int) : a ∈ mem s g l ↔ s.h a = true ∧ grp s a = g := by
  unfold mem memP
  rw [List.mem_filter, hk.2]
  simp
theorem h_of_grp {s : GS} {a g : Int} (hg : 1 ≤ g) (h : grp s a = g) : s.h a = true := by
  cases hh : s.h a with
  | true => rfl
  | false => exfalso; unfold grp at h; rw [hh] at h; simp at h; omega
theorem h_none {s : GS} (hs : GOk s) {a : Int} (h : grp s a = 0) : s.h a = false := by
  cases hh : s.h a with
  | false => rfl
  | true => exfalso; have := (hs.v0 a hh).1; unfold grp at h; rw [hh] at h; simp at h; omega
theorem mem_add_same {s : GS} (hs : GOk s) {l : List Int} (hk : KeysOf s.h l) {nm g : Int} (hg : 1 ≤ g) (h0 : grp s nm = 0) (k : Nat) (h1 : ∀ i, i < k → i < (mem s g l).length → lsD (mem s g l) i < nm) (h2 : k < (mem s g l).length → ¬ lsD (mem s g l) k < nm) :
    mem (gAdd s nm g) g (lAdd nm l) = (mem s g l).take k ++ nm :: (mem s g l).drop k := by
  have hno : nm ∉ mem s g l := fun h => by rw [mem_of hk, h_none hs h0] at h; cases h.1
  refine sorted_ext (mem_sorted (keys_add hk nm g) g) (sorted_ins (mem_sorted hk g) hno k h1 h2) fun a => ?_
  rw [mem_of (keys_add hk nm g), mem_ins, mem_of hk, h_add, grp_add]
  by_cases e : a = nm
  · simp [e]
  · simp [e]
theorem mem_add_other {s : GS} {l : List Int} (hk : KeysOf s.h l) {nm g j : Int} (hj : j ≠ g) (h0 : s.h nm = false) : mem (gAdd s nm g) j (lAdd nm l) = mem s j l := by
  refine sorted_ext (mem_sorted (keys_add hk nm g) j) (mem_sorted hk j) fun a => ?_
  rw [mem_of (keys_add hk nm g), mem_of hk, h_add, grp_add]
  by_cases e : a = nm
  · subst e; simp [h0]; omega
  · simp [e]
theorem mem_del {s : GS} {l : List Int} (hk : KeysOf s.h l) {nm j : Int} (hj : 1 ≤ j) : mem (gDel s nm) j (lDel nm l) = (mem s j l).filter (fun a => decide (a ≠ nm)) := by
  refine sorted_ext (mem_sorted (keys_del hk nm) j) ((mem_sorted hk j).filter _) fun a => ?_
  rw [mem_of (keys_del hk nm), List.mem_filter, mem_of hk, h_del, grp_del]
  by_cases e : a = nm
  · simp [e]
  · simp [e]
theorem mem_del_other {s : GS} {l : List Int} (hk : KeysOf s.h l) {nm j : Int} (hj : 1 ≤ j) (hn : grp s nm ≠ j) : mem (gDel s nm) j (lDel nm l) = mem s j l := by
  rw [mem_del hk hj]
  refine List.filter_eq_self.2 fun a ha => ?_
  have := ((mem_of hk j a).1 ha).2
  simp only [decide_eq_true_eq]
  intro e; subst e; exact hn this
theorem GOk.add {s : GS} (hs : GOk s) (nm : Int) {g : Int} (hg : 1 ≤ g ∧ g ≤ s.n) : GOk (gAdd s nm g) := by
  refine ⟨hs.n0, hs.n1, hs.t0, hs.t1, hs.f0, hs.c0, fun a ha => ?_⟩
  rw [h_add] at ha
  show 1 ≤ (bif ieq a nm then g else s.v a) ∧ (bif ieq a nm then g else s.v a) ≤ s.n
  by_cases e : a = nm
  · simp [ieq, e]; exact hg
  · simp [ieq, e]
    rcases ha with h | h
    · exact absurd h e
    · exact hs.v0 a h
theorem GOk.del {s : GS} (hs : GOk s) (nm : Int) : GOk (gDel s nm) :=
  ⟨hs.n0, hs.n1, hs.t0, hs.t1, hs.f0, hs.c0, fun a ha => hs.v0 a ((h_del s nm a).1 ha).1⟩
theorem wrap64 (a : Int) : 0 ≤ IntKind.u64.wrap a ∧ IntKind.u64.wrap a < 18446744073709551616 := by
  have e : (2 : Int) ^ IntKind.u64.bits = 18446744073709551616 := by decide
  have : IntKind.u64.wrap a = a % 18446744073709551616 := by simp [IntKind.wrap, IntKind.signed, e]
  rw [this]; omega
theorem GOk.set {s : GS} (hs : GOk s) (g to dur : Int) (hd : 0 ≤ dur ∧ dur ≤ 65536) : GOk (gSet s g to dur) := by
  refine ⟨hs.n0, hs.n1, hs.t0, hs.t1, fun i => ?_, fun i => ?_, hs.v0⟩
  · have := hs.t0; have := hs.t1
    show 0 ≤ (if i = (g - 1).toNat then s.now + dur else s.fr i) ∧ (if i = (g - 1).toNat then s.now + dur else s.fr i) ≤ 1099511693312
    split
    · omega
    · exact hs.f0 i
  · show 0 ≤ (if i = (g - 1).toNat then IntKind.u64.wrap (s.ch i + 1) else s.ch i) ∧ (if i = (g - 1).toNat then IntKind.u64.wrap (s.ch i + 1) else s.ch i) < 18446744073709551616
    split
    · exact wrap64 _
    · exact hs.c0 i
/-- How many members the first groups have. -/
def cntM (s : GS) (l : List Int) : Nat → Nat
  | 0 => 0
  | j + 1 => cntM s l j + (mem s ((j : Int) + 1) l).length
theorem cntM_cons (s : GS) (x : Int) (l : List Int) : ∀ j, cntM s (x :: l) j = cntM s l j + if 1 ≤ grp s x ∧ grp s x ≤ (j : Int) then 1 else 0
  | 0 => by
    have : ¬ (1 ≤ grp s x ∧ grp s x ≤ ((0 : Nat) : Int)) := by simp; omega
    rw [if_neg this]; rfl
  | j + 1 => by
    have ih := cntM_cons s x l j
    have e : (mem s ((j : Int) + 1) (x :: l)).length = (mem s ((j : Int) + 1) l).length + if grp s x = (j : Int) + 1 then 1 else 0 := by
      unfold mem
      rw [List.filter_cons]
      by_cases h : grp s x = (j : Int) + 1
      · rw [if_pos h, if_pos (by simp [memP, h])]; rfl
      · rw [if_neg h, if_neg (by simp [memP, h])]; rfl
    show cntM s (x :: l) j + (mem s ((j : Int) + 1) (x :: l)).length = cntM s l j + (mem s ((j : Int) + 1) l).length + _
    rw [ih, e]
    generalize grp s x = q
    by_cases h1 : q = (j : Int) + 1
    · have a1 : ¬ (1 ≤ q ∧ q ≤ (j : Int)) := by omega
      have a2 : 1 ≤ q ∧ q ≤ ((j + 1 : Nat) : Int) := by omega
      rw [if_neg a1, if_pos a2, if_pos h1]; omega
    · by_cases h2 : 1 ≤ q ∧ q ≤ (j : Int)
      · have a2 : 1 ≤ q ∧ q ≤ ((j + 1 : Nat) : Int) := by omega
        rw [if_pos h2, if_pos a2, if_neg h1]; omega
      · have a2 : ¬ (1 ≤ q ∧ q ≤ ((j + 1 : Nat) : Int)) := by omega
        rw [if_neg h2, if_neg a2, if_neg h1]; omega
theorem cntM_le (s : GS) (j : Nat) : ∀ l : List Int, cntM s l j ≤ l.length
  | [] => by
    have : ∀ j, cntM s [] j = 0 := fun j => by
      induction j with
      | zero => rfl
      | succ j ih => show cntM s [] j + 0 = 0; rw [ih]
    rw [this]; exact Nat.zero_le _
  | x :: l => by
    rw [cntM_cons]
    have := cntM_le s j l
    simp only [List.length_cons]
    split <;> omega
end Sx
